/-
  A region whose order is open: the operations that write nothing may be taken first, in the order of the text; what is left is forced. Over any program. No toy.
-/
import Derived.Test.YtnfbgleaodkjpaaHvLow
import Derived.Still
set_option linter.all false
namespace Go.Av
open Go.RowKit

/-- How an operation is taken in a region whose order is open: as it is; as one that may turn blocks under counted names; as a load of pure data. -/
inductive OKd where
  | plain | heap | dld

/-- Operations that leave the abstract state as it is. -/
def pureOp0 : Op → Bool
  | .move _ | .assign _ | .pick .. | .build .. | .buildSlice .. | .load .. | .binOp .. | .unOp .. | .convert .. | .makeFunc .. | .slice .. | .fieldAddr .. | .field .. | .indexAddr .. | .index .. | .extract .. | .nilCheck _ => true
  | .call c => (match c.callee with | .value _ => true | .builtin .len => true | .builtin .min => true | .builtin .max => true | _ => false)
  | _ => false
def isLoad : Op → Bool
  | .load .. => true
  | _ => false
def pureOp (kd : Op → OKd) (o : Op) : Bool := match kd o with | .plain => pureOp0 o | .heap => false | .dld => true

/-- Operations that leave the blocks of one's own as they are. -/
def keepsH0 : Op → Bool
  | .alloc _ | .box .. | .store .. | .makeSlice .. => false
  | _ => true
def keepsH (kd : Op → OKd) (o : Op) : Bool := match kd o with | .plain => keepsH0 o | .heap => false | .dld => true

def readsH (kd : Op → OKd) (o : Op) : Bool := match kd o with | .plain => isLoad o | .heap => true | .dld => false

/-- A pure call, what follows behind its result. -/
def apure (P : Program) (s : St) (f : Operand) (args : List Operand) (K : A → St → Prop) : Prop :=
  ∃ g caps as r, aCallee s f = some (g, caps) ∧ (args.map (aeval s) ++ caps).mapM alow = some as ∧ PCall P g as r ∧ K r s
/-- A pure call that looks at blocks of one's own, and gives back no slice. -/
def ascal (P : Program) (s : St) (f : Operand) (args : List Operand) (K : A → St → Prop) : Prop :=
  ∃ g caps as r, aCallee s f = some (g, caps) ∧ (args.map (aeval s) ++ caps).mapM (alowH s.H) = some as ∧ PCall P g as r ∧ r.scal = true ∧ K r s
/-- A call that may turn blocks of one's own. -/
def ahcall (P : Program) (s : St) (f : Operand) (args : List Operand) (K : A → St → Prop) : Prop :=
  ∃ g caps as r H', aCallee s f = some (g, caps) ∧ (args.map (aeval s) ++ caps).mapM ahok = some as ∧ HCall P g as s.H r H' ∧ K r (s.hput H')

/-- What operations do with blocks under counted names, turning none. -/
def aheapP (P : Program) (s : St) (o : Op) (K : A → St → Prop) : Prop :=
  match o with
  | .slice t y lo hi mx => (match mx with
    | none => ∃ e c n a b r, sl1 P t e ∧ aeval s y = .one c ∧ hLen c = some n ∧ obd s 0 lo = some a ∧ obd s n hi = some b ∧ hSub c a b = some r ∧ K (.one r) s
    | some m => ∃ e c n a b q, sl1 P t e ∧ aeval s y = .one c ∧ hLen c = some n ∧ obd s 0 lo = some a ∧ hi.isSome = true ∧ obd s n hi = some b ∧ obd s 0 (some m) = some q ∧ 0 ≤ a ∧ a ≤ b ∧ b ≤ q ∧ q ≤ n ∧ K (.one .any) s)
  | .indexAddr .. | .load .. | .makeFunc .. | .nilCheck _ => aheap P s o K
  | .call c => (match c.callee with | .builtin .len => aheap P s o K | _ => False)
  | _ => False

def aDload (P : Program) (s : St) (o : Op) (K : A → St → Prop) : Prop :=
  match o with
  | .load t y => ∃ p c, tagg P t = some false ∧ tsz P t = some 1 ∧ aeval s y = .one p ∧ hLoad [] p = some c ∧ K (.one c) s
  | _ => False

def adop (P : Program) (kd : Op → OKd) (s : St) (o : Op) (K : A → St → Prop) : Prop :=
  match kd o with
  | .plain => (match o with
    | .call c => (match c.callee with
      | .value f => apure P s f c.args.toList K
      | _ => aop0 P s (.call c) K ∨ aheapP P s (.call c) K)
    | o => aop0 P s o K ∨ aheapP P s o K)
  | .heap => (match o with
    | .call c => (match c.callee with
      | .value f => ahcall P s f c.args.toList K ∨ ascal P s f c.args.toList K ∨ apure P s f c.args.toList K
      | _ => aheap P s (.call c) K)
    | o => aheap P s o K)
  | .dld => aDload P s o K

theorem aheap_of_P {P : Program} {s : St} {o : Op} {K : A → St → Prop} (h : aheapP P s o K) : aheap P s o K := by
  cases o
  case slice t y lo hi mx =>
    cases mx with
    | none => obtain ⟨e, c, n, p, q, r, h1, h2, h3, h4, h5, h6, h7⟩ := h; exact ⟨e, c, n, p, q, r, h1, h2, h3, h4, h5, hSubX_of h6, h7⟩
    | some m => exact h
  all_goals
    unfold aheapP at h
    first
      | exact h
      | exact h.elim
      | (simp only [] at h; split at h <;> first | exact h | exact h.elim)

theorem aDload_aheap {P : Program} {s : St} {o : Op} {K : A → St → Prop} (h : aDload P s o K) : aheap P s o K := by
  unfold aDload at h
  split at h
  · obtain ⟨p, c, h1, h2, h3, h4, h5⟩ := h
    refine ⟨p, c, h1, h2, h3, ?_, h5⟩
    unfold hLoad at h4 ⊢
    split at h4
    · simp [hGet] at h4
    · exact h4
    · cases h4
  · exact h.elim

theorem aop_of_adop {P : Program} {kd : Op → OKd} {s : St} {o : Op} {K : A → St → Prop} (h : adop P kd s o K) : aop P s o K := by
  have hcall : ∀ c f, c.callee = .value f → (∀ g caps, aCallee s f = some (g, caps) → ACall P g (c.args.toList.map (aeval s) ++ caps) s K) → (∃ g caps, aCallee s f = some (g, caps)) → aop P s (.call c) K := fun c f hf hk ⟨g, caps, hc⟩ => by
    refine .inl ?_
    unfold aop0
    simp only [hf, hc]
    exact hk g caps hc
  have hpure : ∀ c f, c.callee = .value f → apure P s f c.args.toList K → aop P s (.call c) K := fun c f hf ⟨g, caps, as, r, hc, hl, hp, hk⟩ =>
    hcall c f hf (fun g' caps' hc' => by rw [hc] at hc'; cases hc'; exact ACall.pure hp hl hk) ⟨g, caps, hc⟩
  unfold adop at h
  cases hkd : kd o with
  | plain =>
    simp only [hkd] at h
    cases o with
    | call c =>
      simp only [] at h
      split at h
      · rename_i f hf; exact hpure c f hf h
      · exact h.imp id aheap_of_P
    | _ => exact h.imp id aheap_of_P
  | heap =>
    simp only [hkd] at h
    cases o with
    | call c =>
      simp only [] at h
      split at h
      · rename_i f hf
        rcases h with ⟨g, caps, as, r, H', hc, hl, hp, hk⟩ | ⟨g, caps, as, r, hc, hl, hp, hs, hk⟩ | h
        · exact hcall c f hf (fun g' caps' hc' => by rw [hc] at hc'; cases hc'; exact ACall.heap hp hl hk) ⟨g, caps, hc⟩
        · exact hcall c f hf (fun g' caps' hc' => by rw [hc] at hc'; cases hc'; exact ACall.scal hp hl hs hk) ⟨g, caps, hc⟩
        · exact hpure c f hf h
      · exact .inr h
    | _ => exact .inr h
  | dld =>
    simp only [hkd] at h
    exact .inr (aDload_aheap h)

section frame
variable {P : Program} {s : St} {K : A → St → Prop}
theorem aPart_frame {e : TypeId} {cs : List C} {off : Nat} (h : aPart P s e cs off K) : aPart P s e cs off fun r s' => K r s' ∧ s' = s := by
  unfold aPart at h ⊢
  (repeat' split at h) <;> first | exact h.elim | exact ⟨h.1, h.2, rfl⟩ | exact ⟨h, rfl⟩
theorem aAlloc_frame {e : TypeId} (h : aAlloc P s e K) : aAlloc P s e fun r s' => K r s' ∧ s'.t = s.t := by
  unfold aAlloc at h ⊢
  (repeat' (first | exact ⟨h, rfl⟩ | exact h.elim | split at h | (obtain ⟨h0, h⟩ := h; refine ⟨h0, ?_⟩)))
theorem aBox_frame {y : Operand} (h : aBox s y K) : aBox s y fun r s' => K r s' ∧ s'.t = s.t := by
  unfold aBox at h ⊢
  (repeat' (first | exact ⟨h, rfl⟩ | exact h.elim | split at h | (obtain ⟨h0, h⟩ := h; refine ⟨h0, ?_⟩)))
theorem aBuild_frame {t : TypeId} {parts : Array (Nat × Operand)} (h : aBuild P s t parts K) : aBuild P s t parts fun r s' => K r s' ∧ s' = s := by
  unfold aBuild at h ⊢
  (repeat' (first | exact ⟨h, rfl⟩ | exact ⟨fun e => ⟨h.1 e, rfl⟩, fun e => ⟨h.2 e, rfl⟩⟩ | exact aPart_frame h | exact aLoadCells_mono (fun r hr => ⟨hr, rfl⟩) h | exact ibin_mono (fun r hr => ⟨hr, rfl⟩) h | exact ishift_mono (fun r hr => ⟨hr, rfl⟩) h | exact sbin_mono (fun r hr => ⟨hr, rfl⟩) h | exact h.elim | split at h | (obtain ⟨h0, h⟩ := h; refine ⟨h0, ?_⟩)))
theorem aBuildSlice_frame {t : TypeId} {len : Nat} {parts : Array (Nat × Operand)} (h : aBuildSlice P s t len parts K) : aBuildSlice P s t len parts fun r s' => K r s' ∧ s' = s := by
  unfold aBuildSlice at h ⊢
  (repeat' (first | exact ⟨h, rfl⟩ | exact ⟨fun e => ⟨h.1 e, rfl⟩, fun e => ⟨h.2 e, rfl⟩⟩ | exact aPart_frame h | exact aLoadCells_mono (fun r hr => ⟨hr, rfl⟩) h | exact ibin_mono (fun r hr => ⟨hr, rfl⟩) h | exact ishift_mono (fun r hr => ⟨hr, rfl⟩) h | exact sbin_mono (fun r hr => ⟨hr, rfl⟩) h | exact h.elim | split at h | (obtain ⟨h0, h⟩ := h; refine ⟨h0, ?_⟩)))
theorem aLoad_frame {t : TypeId} {y : Operand} (h : aLoad P s t y K) : aLoad P s t y fun r s' => K r s' ∧ s' = s := by
  unfold aLoad at h ⊢
  (repeat' (first | exact ⟨h, rfl⟩ | exact ⟨fun e => ⟨h.1 e, rfl⟩, fun e => ⟨h.2 e, rfl⟩⟩ | exact aPart_frame h | exact aLoadCells_mono (fun r hr => ⟨hr, rfl⟩) h | exact ibin_mono (fun r hr => ⟨hr, rfl⟩) h | exact ishift_mono (fun r hr => ⟨hr, rfl⟩) h | exact sbin_mono (fun r hr => ⟨hr, rfl⟩) h | exact h.elim | split at h | (obtain ⟨h0, h⟩ := h; refine ⟨h0, ?_⟩)))
theorem aStore_frame {t : TypeId} {y z : Operand} (h : aStore P s t y z K) : aStore P s t y z fun r s' => K r s' ∧ s'.t = s.t := by
  unfold aStore at h ⊢
  (repeat' (first | exact ⟨h, rfl⟩ | exact h.elim | split at h | (obtain ⟨h0, h⟩ := h; refine ⟨h0, ?_⟩)))
theorem aBin_frame {op : BinOp} {t : TypeId} {y z : Operand} (h : aBin P s op t y z K) : aBin P s op t y z fun r s' => K r s' ∧ s' = s := by
  unfold aBin at h ⊢
  (repeat' (first | exact ⟨h, rfl⟩ | exact ⟨fun e => ⟨h.1 e, rfl⟩, fun e => ⟨h.2 e, rfl⟩⟩ | exact aPart_frame h | exact aLoadCells_mono (fun r hr => ⟨hr, rfl⟩) h | exact ibin_mono (fun r hr => ⟨hr, rfl⟩) h | exact ishift_mono (fun r hr => ⟨hr, rfl⟩) h | exact sbin_mono (fun r hr => ⟨hr, rfl⟩) h | exact h.elim | split at h | (obtain ⟨h0, h⟩ := h; refine ⟨h0, ?_⟩)))
theorem aUn_frame {op : UnOp} {y : Operand} (h : aUn s op y K) : aUn s op y fun r s' => K r s' ∧ s' = s := by
  unfold aUn at h ⊢
  (repeat' (first | exact ⟨h, rfl⟩ | exact ⟨fun e => ⟨h.1 e, rfl⟩, fun e => ⟨h.2 e, rfl⟩⟩ | exact aPart_frame h | exact aLoadCells_mono (fun r hr => ⟨hr, rfl⟩) h | exact ibin_mono (fun r hr => ⟨hr, rfl⟩) h | exact ishift_mono (fun r hr => ⟨hr, rfl⟩) h | exact sbin_mono (fun r hr => ⟨hr, rfl⟩) h | exact h.elim | split at h | (obtain ⟨h0, h⟩ := h; refine ⟨h0, ?_⟩)))
theorem aConvert_frame {t t' : TypeId} {y : Operand} (h : aConvert P s t t' y K) : aConvert P s t t' y fun r s' => K r s' ∧ s' = s := by
  unfold aConvert at h ⊢
  (repeat' (first | exact ⟨h, rfl⟩ | exact ⟨fun e => ⟨h.1 e, rfl⟩, fun e => ⟨h.2 e, rfl⟩⟩ | exact aPart_frame h | exact aLoadCells_mono (fun r hr => ⟨hr, rfl⟩) h | exact ibin_mono (fun r hr => ⟨hr, rfl⟩) h | exact ishift_mono (fun r hr => ⟨hr, rfl⟩) h | exact sbin_mono (fun r hr => ⟨hr, rfl⟩) h | exact h.elim | split at h | (obtain ⟨h0, h⟩ := h; refine ⟨h0, ?_⟩)))
theorem aMakeFunc_frame {fn : Fn} {fs cs : Array Operand} (h : aMakeFunc s fn fs cs K) : aMakeFunc s fn fs cs fun r s' => K r s' ∧ s' = s := by
  unfold aMakeFunc at h ⊢
  (repeat' (first | exact ⟨h, rfl⟩ | exact ⟨fun e => ⟨h.1 e, rfl⟩, fun e => ⟨h.2 e, rfl⟩⟩ | exact aPart_frame h | exact aLoadCells_mono (fun r hr => ⟨hr, rfl⟩) h | exact ibin_mono (fun r hr => ⟨hr, rfl⟩) h | exact ishift_mono (fun r hr => ⟨hr, rfl⟩) h | exact sbin_mono (fun r hr => ⟨hr, rfl⟩) h | exact h.elim | split at h | (obtain ⟨h0, h⟩ := h; refine ⟨h0, ?_⟩)))
theorem aMake_frame {t : TypeId} {y z : Operand} (h : aMake P s t y z K) : aMake P s t y z fun r s' => K r s' ∧ s'.t = s.t := by
  unfold aMake at h ⊢
  (repeat' (first | exact ⟨h, rfl⟩ | exact h.elim | split at h | (obtain ⟨h0, h⟩ := h; refine ⟨h0, ?_⟩)))
theorem aSlice_frame {t : TypeId} {y : Operand} {lo hi mx : Option Operand} (h : aSlice P s t y lo hi mx K) : aSlice P s t y lo hi mx fun r s' => K r s' ∧ s' = s := by
  unfold aSlice at h ⊢
  (repeat' (first | exact ⟨h, rfl⟩ | exact ⟨fun e => ⟨h.1 e, rfl⟩, fun e => ⟨h.2 e, rfl⟩⟩ | exact aPart_frame h | exact aLoadCells_mono (fun r hr => ⟨hr, rfl⟩) h | exact ibin_mono (fun r hr => ⟨hr, rfl⟩) h | exact ishift_mono (fun r hr => ⟨hr, rfl⟩) h | exact sbin_mono (fun r hr => ⟨hr, rfl⟩) h | exact h.elim | split at h | (obtain ⟨h0, h⟩ := h; refine ⟨h0, ?_⟩)))
theorem aFieldAddr_frame {t : TypeId} {y : Operand} {i : Nat} (h : aFieldAddr P s t y i K) : aFieldAddr P s t y i fun r s' => K r s' ∧ s' = s := by
  unfold aFieldAddr at h ⊢
  (repeat' (first | exact ⟨h, rfl⟩ | exact ⟨fun e => ⟨h.1 e, rfl⟩, fun e => ⟨h.2 e, rfl⟩⟩ | exact aPart_frame h | exact aLoadCells_mono (fun r hr => ⟨hr, rfl⟩) h | exact ibin_mono (fun r hr => ⟨hr, rfl⟩) h | exact ishift_mono (fun r hr => ⟨hr, rfl⟩) h | exact sbin_mono (fun r hr => ⟨hr, rfl⟩) h | exact h.elim | split at h | (obtain ⟨h0, h⟩ := h; refine ⟨h0, ?_⟩)))
theorem aField_frame {t : TypeId} {y : Operand} {i : Nat} (h : aField P s t y i K) : aField P s t y i fun r s' => K r s' ∧ s' = s := by
  unfold aField at h ⊢
  (repeat' (first | exact ⟨h, rfl⟩ | exact ⟨fun e => ⟨h.1 e, rfl⟩, fun e => ⟨h.2 e, rfl⟩⟩ | exact aPart_frame h | exact aLoadCells_mono (fun r hr => ⟨hr, rfl⟩) h | exact ibin_mono (fun r hr => ⟨hr, rfl⟩) h | exact ishift_mono (fun r hr => ⟨hr, rfl⟩) h | exact sbin_mono (fun r hr => ⟨hr, rfl⟩) h | exact h.elim | split at h | (obtain ⟨h0, h⟩ := h; refine ⟨h0, ?_⟩)))
theorem aIndexAddr_frame {t : TypeId} {y z : Operand} (h : aIndexAddr P s t y z K) : aIndexAddr P s t y z fun r s' => K r s' ∧ s' = s := by
  unfold aIndexAddr at h ⊢
  (repeat' (first | exact ⟨h, rfl⟩ | exact ⟨fun e => ⟨h.1 e, rfl⟩, fun e => ⟨h.2 e, rfl⟩⟩ | exact aPart_frame h | exact aLoadCells_mono (fun r hr => ⟨hr, rfl⟩) h | exact ibin_mono (fun r hr => ⟨hr, rfl⟩) h | exact ishift_mono (fun r hr => ⟨hr, rfl⟩) h | exact sbin_mono (fun r hr => ⟨hr, rfl⟩) h | exact h.elim | split at h | (obtain ⟨h0, h⟩ := h; refine ⟨h0, ?_⟩)))
theorem aIndex_frame {t : TypeId} {y z : Operand} (h : aIndex P s t y z K) : aIndex P s t y z fun r s' => K r s' ∧ s' = s := by
  unfold aIndex at h ⊢
  (repeat' (first | exact ⟨h, rfl⟩ | exact ⟨fun e => ⟨h.1 e, rfl⟩, fun e => ⟨h.2 e, rfl⟩⟩ | exact aPart_frame h | exact aLoadCells_mono (fun r hr => ⟨hr, rfl⟩) h | exact ibin_mono (fun r hr => ⟨hr, rfl⟩) h | exact ishift_mono (fun r hr => ⟨hr, rfl⟩) h | exact sbin_mono (fun r hr => ⟨hr, rfl⟩) h | exact h.elim | split at h | (obtain ⟨h0, h⟩ := h; refine ⟨h0, ?_⟩)))
theorem aExtract_frame {y : Operand} {i : Nat} (h : aExtract s y i K) : aExtract s y i fun r s' => K r s' ∧ s' = s := by
  unfold aExtract at h ⊢
  (repeat' (first | exact ⟨h, rfl⟩ | exact ⟨fun e => ⟨h.1 e, rfl⟩, fun e => ⟨h.2 e, rfl⟩⟩ | exact aPart_frame h | exact aLoadCells_mono (fun r hr => ⟨hr, rfl⟩) h | exact ibin_mono (fun r hr => ⟨hr, rfl⟩) h | exact ishift_mono (fun r hr => ⟨hr, rfl⟩) h | exact sbin_mono (fun r hr => ⟨hr, rfl⟩) h | exact h.elim | split at h | (obtain ⟨h0, h⟩ := h; refine ⟨h0, ?_⟩)))
theorem aLen_frame {t : TypeId} {y : Operand} (h : aLen P s t y K) : aLen P s t y fun r s' => K r s' ∧ s' = s := by
  unfold aLen at h ⊢
  (repeat' (first | exact ⟨h, rfl⟩ | exact ⟨fun e => ⟨h.1 e, rfl⟩, fun e => ⟨h.2 e, rfl⟩⟩ | exact aPart_frame h | exact aLoadCells_mono (fun r hr => ⟨hr, rfl⟩) h | exact ibin_mono (fun r hr => ⟨hr, rfl⟩) h | exact ishift_mono (fun r hr => ⟨hr, rfl⟩) h | exact sbin_mono (fun r hr => ⟨hr, rfl⟩) h | exact h.elim | split at h | (obtain ⟨h0, h⟩ := h; refine ⟨h0, ?_⟩)))
theorem aAppend_frame {t : TypeId} {y z : Operand} (h : aAppend P s t y z K) : aAppend P s t y z fun r s' => K r s' ∧ s'.t = s.t ∧ s'.h = s.h ∧ s'.H = s.H := by
  unfold aAppend at h ⊢
  (repeat' (first | exact ⟨h, rfl, rfl, rfl⟩ | exact h.elim | split at h | (obtain ⟨h0, h⟩ := h; refine ⟨h0, ?_⟩)))
theorem aMin_frame {mn : Bool} {y z : Operand} (h : aMin s mn y z K) : aMin s mn y z fun r s' => K r s' ∧ s' = s := by
  unfold aMin at h ⊢
  (repeat' (first | exact ⟨h, rfl⟩ | exact ⟨fun e => ⟨h.1 e, rfl⟩, fun e => ⟨h.2 e, rfl⟩⟩ | exact aPart_frame h | exact aLoadCells_mono (fun r hr => ⟨hr, rfl⟩) h | exact ibin_mono (fun r hr => ⟨hr, rfl⟩) h | exact ishift_mono (fun r hr => ⟨hr, rfl⟩) h | exact sbin_mono (fun r hr => ⟨hr, rfl⟩) h | exact h.elim | split at h | (obtain ⟨h0, h⟩ := h; refine ⟨h0, ?_⟩)))
end frame

section congr
variable {P : Program} {s s1 : St} {K K1 : A → St → Prop}
theorem aPart_congr (hK : ∀ r, K1 r s1 = K r s) {e : TypeId} {cs : List C} {off : Nat} : aPart P s1 e cs off K1 = aPart P s e cs off K := by
  unfold aPart; simp only [hK]
theorem aBuild_congr (hK : ∀ r, K1 r s1 = K r s) {t : TypeId} {parts : Array (Nat × Operand)} (hy : (parts.toList.map fun p => (p.1, aeval s1 p.2)) = parts.toList.map fun p => (p.1, aeval s p.2)) : aBuild P s1 t parts K1 = aBuild P s t parts K := by
  unfold aBuild; simp only [hy, hK]
theorem aBuildSlice_congr (hK : ∀ r, K1 r s1 = K r s) {t : TypeId} {len : Nat} {parts : Array (Nat × Operand)} (hy : parts.toList.mapM (fun p => lowCells (aeval s1 p.2)) = parts.toList.mapM (fun p => lowCells (aeval s p.2))) : aBuildSlice P s1 t len parts K1 = aBuildSlice P s t len parts K := by
  unfold aBuildSlice; simp only [hy, hK]
theorem aLoad_congr (hK : ∀ r, K1 r s1 = K r s) {t : TypeId} {y : Operand} (hy : aeval s1 y = aeval s y) (hh : s1.h = s.h) : aLoad P s1 t y K1 = aLoad P s t y K := by
  unfold aLoad; simp only [hy, hh, hK]
theorem aBin_congr (hK : ∀ r, K1 r s1 = K r s) {op : BinOp} {t : TypeId} {y z : Operand} (hy : aeval s1 y = aeval s y) (hz : aeval s1 z = aeval s z) : aBin P s1 op t y z K1 = aBin P s op t y z K := by
  unfold aBin; simp only [hy, hz, hK]
theorem aUn_congr (hK : ∀ r, K1 r s1 = K r s) {op : UnOp} {y : Operand} (hy : aeval s1 y = aeval s y) : aUn s1 op y K1 = aUn s op y K := by
  unfold aUn; simp only [hy, hK]
theorem aConvert_congr (hK : ∀ r, K1 r s1 = K r s) {t t' : TypeId} {y : Operand} (hy : aeval s1 y = aeval s y) : aConvert P s1 t t' y K1 = aConvert P s t t' y K := by
  unfold aConvert; simp only [hy, hK]
theorem aMakeFunc_congr (hK : ∀ r, K1 r s1 = K r s) {fn : Fn} {fs cs : Array Operand} (hy : refIds s1 cs.toList = refIds s cs.toList) : aMakeFunc s1 fn fs cs K1 = aMakeFunc s fn fs cs K := by
  unfold aMakeFunc; simp only [hy, hK]
theorem aSlice_congr (hK : ∀ r, K1 r s1 = K r s) {t : TypeId} {y : Operand} {lo hi mx : Option Operand} (hy : aeval s1 y = aeval s y) (hlo : ∀ d, obd s1 d lo = obd s d lo) (hhi : ∀ d, obd s1 d hi = obd s d hi) (hmx : ∀ d, obd s1 d mx = obd s d mx) : aSlice P s1 t y lo hi mx K1 = aSlice P s t y lo hi mx K := by
  unfold aSlice
  cases mx with
  | none => simp only [hy, hlo, hhi, hK]
  | some m => have := hmx 0; simp only [hy, hlo, hhi, this, hK]
theorem aFieldAddr_congr (hK : ∀ r, K1 r s1 = K r s) {t : TypeId} {y : Operand} {i : Nat} (hy : aeval s1 y = aeval s y) : aFieldAddr P s1 t y i K1 = aFieldAddr P s t y i K := by
  unfold aFieldAddr; simp only [hy, hK]
theorem aField_congr (hK : ∀ r, K1 r s1 = K r s) {t : TypeId} {y : Operand} {i : Nat} (hy : aeval s1 y = aeval s y) : aField P s1 t y i K1 = aField P s t y i K := by
  unfold aField; simp only [hy, hK, aPart_congr hK]
theorem aIndexAddr_congr (hK : ∀ r, K1 r s1 = K r s) {t : TypeId} {y z : Operand} (hy : aeval s1 y = aeval s y) (hz : aeval s1 z = aeval s z) : aIndexAddr P s1 t y z K1 = aIndexAddr P s t y z K := by
  unfold aIndexAddr; simp only [hy, hz, hK]
theorem aIndex_congr (hK : ∀ r, K1 r s1 = K r s) {t : TypeId} {y z : Operand} (hy : aeval s1 y = aeval s y) (hz : aeval s1 z = aeval s z) : aIndex P s1 t y z K1 = aIndex P s t y z K := by
  unfold aIndex; simp only [hy, hz, hK, aPart_congr hK]
theorem aExtract_congr (hK : ∀ r, K1 r s1 = K r s) {y : Operand} {i : Nat} (hy : aeval s1 y = aeval s y) : aExtract s1 y i K1 = aExtract s y i K := by
  unfold aExtract; simp only [hy, hK]
theorem aLen_congr (hK : ∀ r, K1 r s1 = K r s) {t : TypeId} {y : Operand} (hy : aeval s1 y = aeval s y) : aLen P s1 t y K1 = aLen P s t y K := by
  unfold aLen; simp only [hy, hK]
theorem aMin_congr (hK : ∀ r, K1 r s1 = K r s) {mn : Bool} {y z : Operand} (hy : aeval s1 y = aeval s y) (hz : aeval s1 z = aeval s z) : aMin s1 mn y z K1 = aMin s mn y z K := by
  unfold aMin; simp only [hy, hz, hK]
end congr

section setslot
variable {P : Program} {s : St} {K : A → St → Prop} {d : Nat} {q : A}
theorem aAlloc_set {e : TypeId} : aAlloc P (s.set d q) e K = aAlloc P s e fun r s' => K r (s'.set d q) := rfl
theorem aBox_set {y : Operand} (hy : aeval (s.set d q) y = aeval s y) : aBox (s.set d q) y K = aBox s y fun r s' => K r (s'.set d q) := by
  unfold aBox; simp only [hy]; rfl
theorem aStore_set {t : TypeId} {y z : Operand} (hy : aeval (s.set d q) y = aeval s y) (hz : aeval (s.set d q) z = aeval s z) : aStore P (s.set d q) t y z K = aStore P s t y z fun r s' => K r (s'.set d q) := by
  unfold aStore; simp only [hy, hz]; rfl
theorem aMake_set {t : TypeId} {y z : Operand} (hy : aeval (s.set d q) y = aeval s y) (hz : aeval (s.set d q) z = aeval s z) : aMake P (s.set d q) t y z K = aMake P s t y z fun r s' => K r (s'.set d q) := by
  unfold aMake; simp only [hy, hz]; rfl
theorem aAppend_set {t : TypeId} {y z : Operand} (hy : aeval (s.set d q) y = aeval s y) (hz : aeval (s.set d q) z = aeval s z) : aAppend P (s.set d q) t y z K = aAppend P s t y z fun r s' => K r (s'.set d q) := by
  unfold aAppend; simp only [hy, hz]; rfl
end setslot

section ex
variable {P : Program} {s : St} {K : A → St → Prop}
theorem aPart_ex {e : TypeId} {cs : List C} {off : Nat} (h : aPart P s e cs off K) : ∃ r, aPart P s e cs off (fun r' s' => r' = r ∧ s' = s) ∧ K r s := by
  unfold aPart at h ⊢
  (repeat' split at h) <;> first | exact h.elim | exact ⟨_, ⟨h.1, rfl, rfl⟩, h.2⟩ | exact ⟨_, ⟨rfl, rfl⟩, h⟩
theorem aLoadCells_ex {cs : List C} {ag : Bool} {sz : Nat} {K : A → Prop} (h : aLoadCells cs ag sz K) : ∃ r, aLoadCells cs ag sz (· = r) ∧ K r := by
  unfold aLoadCells at h ⊢
  cases ag with
  | true => exact ⟨_, ⟨h.1, rfl⟩, h.2⟩
  | false => cases cs with
    | nil => exact h.elim
    | cons c cs => exact ⟨_, rfl, h⟩
theorem ibin_ex {op : BinOp} {k : IntKind} {a b : Int} {K : Value → Prop} (h : ibin op k a b K) : ∃ r, ibin op k a b (· = r) ∧ K r := by
  cases op <;> first | exact ⟨_, rfl, h⟩ | exact ⟨_, ⟨h.1, rfl⟩, h.2⟩ | exact h.elim
theorem ishift_ex {op : BinOp} {k : IntKind} {a b : Int} {K : Value → Prop} (h : ishift op k a b K) : ∃ r, ishift op k a b (· = r) ∧ K r := by
  cases op <;> first | exact ⟨_, ⟨h.1, rfl⟩, h.2⟩ | exact h.elim
theorem sbin_ex {op : BinOp} {a b : List UInt8} {K : D → Prop} (h : sbin op a b K) : ∃ r, sbin op a b (· = r) ∧ K r := by
  cases op <;> first | exact ⟨_, rfl, h⟩ | exact ⟨_, ⟨h.1, rfl⟩, h.2⟩ | exact h.elim
theorem aBuild_ex {t : TypeId} {parts : Array (Nat × Operand)} (h : aBuild P s t parts K) : ∃ r, aBuild P s t parts (fun r' s' => r' = r ∧ s' = s) ∧ K r s := by
  unfold aBuild at h ⊢
  (repeat' split at h)
  all_goals first | exact h.elim | exact h.2.elim | exact h.2.2.elim | exact h.2.2.2.elim | exact ⟨_, ⟨rfl, rfl⟩, h⟩ | exact ⟨_, ⟨h.1, rfl, rfl⟩, h.2⟩ | exact ⟨_, ⟨h.1, h.2.1, rfl, rfl⟩, h.2.2⟩ | exact ⟨_, ⟨h.1, h.2.1, h.2.2.1, rfl, rfl⟩, h.2.2.2⟩ | exact ⟨_, ⟨h.1, h.2.1, h.2.2.1, h.2.2.2.1, rfl, rfl⟩, h.2.2.2.2⟩ | exact ⟨_, ⟨h.1, h.2.1, h.2.2.1, h.2.2.2.1, h.2.2.2.2.1, rfl, rfl⟩, h.2.2.2.2.2⟩ | exact ⟨_, ⟨h.1, h.2.1, h.2.2.1, h.2.2.2.1, h.2.2.2.2.1, h.2.2.2.2.2.1, rfl, rfl⟩, h.2.2.2.2.2.2⟩
theorem aBuildSlice_ex {t : TypeId} {len : Nat} {parts : Array (Nat × Operand)} (h : aBuildSlice P s t len parts K) : ∃ r, aBuildSlice P s t len parts (fun r' s' => r' = r ∧ s' = s) ∧ K r s := by
  unfold aBuildSlice at h ⊢
  (repeat' split at h)
  all_goals first | exact h.elim | exact h.2.elim | exact h.2.2.elim | exact h.2.2.2.elim | exact ⟨_, ⟨rfl, rfl⟩, h⟩ | exact ⟨_, ⟨h.1, rfl, rfl⟩, h.2⟩ | exact ⟨_, ⟨h.1, h.2.1, rfl, rfl⟩, h.2.2⟩ | exact ⟨_, ⟨h.1, h.2.1, h.2.2.1, rfl, rfl⟩, h.2.2.2⟩ | exact ⟨_, ⟨h.1, h.2.1, h.2.2.1, h.2.2.2.1, rfl, rfl⟩, h.2.2.2.2⟩ | exact ⟨_, ⟨h.1, h.2.1, h.2.2.1, h.2.2.2.1, h.2.2.2.2.1, rfl, rfl⟩, h.2.2.2.2.2⟩ | exact ⟨_, ⟨h.1, h.2.1, h.2.2.1, h.2.2.2.1, h.2.2.2.2.1, h.2.2.2.2.2.1, rfl, rfl⟩, h.2.2.2.2.2.2⟩
theorem aLoad_ex {t : TypeId} {y : Operand} (h : aLoad P s t y K) : ∃ r, aLoad P s t y (fun r' s' => r' = r ∧ s' = s) ∧ K r s := by
  unfold aLoad at h ⊢
  (repeat' split at h)
  · obtain ⟨r, h1, h2⟩ := aLoadCells_ex h; exact ⟨r, aLoadCells_mono (fun v hv => ⟨hv, rfl⟩) h1, h2⟩
  · exact h.elim
  · obtain ⟨r, h1, h2⟩ := aLoadCells_ex h; exact ⟨r, aLoadCells_mono (fun v hv => ⟨hv, rfl⟩) h1, h2⟩
  · exact h.elim
theorem aBin_ex {op : BinOp} {t : TypeId} {y z : Operand} (h : aBin P s op t y z K) : ∃ r, aBin P s op t y z (fun r' s' => r' = r ∧ s' = s) ∧ K r s := by
  unfold aBin at h ⊢
  (repeat' split at h)
  · obtain ⟨r, h1, h2⟩ := ishift_ex h; exact ⟨_, ishift_mono (fun v hv => by subst hv; exact ⟨rfl, rfl⟩) h1, h2⟩
  · obtain ⟨r, h1, h2⟩ := ibin_ex h.2; exact ⟨_, ⟨h.1, ibin_mono (fun v hv => by subst hv; exact ⟨rfl, rfl⟩) h1⟩, h2⟩
  · exact ⟨_, ⟨h.1, rfl, rfl⟩, h.2⟩
  · exact ⟨_, ⟨h.1, rfl, rfl⟩, h.2⟩
  · exact h.2.elim
  · obtain ⟨r, h1, h2⟩ := sbin_ex h; exact ⟨_, sbin_mono (fun v hv => by subst hv; exact ⟨rfl, rfl⟩) h1, h2⟩
  · exact h.elim
theorem aUn_ex {op : UnOp} {y : Operand} (h : aUn s op y K) : ∃ r, aUn s op y (fun r' s' => r' = r ∧ s' = s) ∧ K r s := by
  unfold aUn at h ⊢
  split at h <;> first | exact ⟨_, ⟨rfl, rfl⟩, h⟩ | exact h.elim
theorem aConvert_ex {t t' : TypeId} {y : Operand} (h : aConvert P s t t' y K) : ∃ r, aConvert P s t t' y (fun r' s' => r' = r ∧ s' = s) ∧ K r s := by
  unfold aConvert at h ⊢
  (repeat' split at h)
  all_goals first | exact h.elim | exact h.2.elim | exact h.2.2.elim | exact h.2.2.2.elim | exact ⟨_, ⟨rfl, rfl⟩, h⟩ | exact ⟨_, ⟨h.1, rfl, rfl⟩, h.2⟩ | exact ⟨_, ⟨h.1, h.2.1, rfl, rfl⟩, h.2.2⟩ | exact ⟨_, ⟨h.1, h.2.1, h.2.2.1, rfl, rfl⟩, h.2.2.2⟩ | exact ⟨_, ⟨h.1, h.2.1, h.2.2.1, h.2.2.2.1, rfl, rfl⟩, h.2.2.2.2⟩ | exact ⟨_, ⟨h.1, h.2.1, h.2.2.1, h.2.2.2.1, h.2.2.2.2.1, rfl, rfl⟩, h.2.2.2.2.2⟩ | exact ⟨_, ⟨h.1, h.2.1, h.2.2.1, h.2.2.2.1, h.2.2.2.2.1, h.2.2.2.2.2.1, rfl, rfl⟩, h.2.2.2.2.2.2⟩
theorem aMakeFunc_ex {fn : Fn} {fs cs : Array Operand} (h : aMakeFunc s fn fs cs K) : ∃ r, aMakeFunc s fn fs cs (fun r' s' => r' = r ∧ s' = s) ∧ K r s := by
  unfold aMakeFunc at h ⊢
  (repeat' split at h)
  all_goals first | exact h.elim | exact h.2.elim | exact h.2.2.elim | exact h.2.2.2.elim | exact ⟨_, ⟨rfl, rfl⟩, h⟩ | exact ⟨_, ⟨h.1, rfl, rfl⟩, h.2⟩ | exact ⟨_, ⟨h.1, h.2.1, rfl, rfl⟩, h.2.2⟩ | exact ⟨_, ⟨h.1, h.2.1, h.2.2.1, rfl, rfl⟩, h.2.2.2⟩ | exact ⟨_, ⟨h.1, h.2.1, h.2.2.1, h.2.2.2.1, rfl, rfl⟩, h.2.2.2.2⟩ | exact ⟨_, ⟨h.1, h.2.1, h.2.2.1, h.2.2.2.1, h.2.2.2.2.1, rfl, rfl⟩, h.2.2.2.2.2⟩ | exact ⟨_, ⟨h.1, h.2.1, h.2.2.1, h.2.2.2.1, h.2.2.2.2.1, h.2.2.2.2.2.1, rfl, rfl⟩, h.2.2.2.2.2.2⟩
theorem aSlice_ex {t : TypeId} {y : Operand} {lo hi mx : Option Operand} (h : aSlice P s t y lo hi mx K) : ∃ r, aSlice P s t y lo hi mx (fun r' s' => r' = r ∧ s' = s) ∧ K r s := by
  unfold aSlice at h ⊢
  (repeat' split at h)
  all_goals first
    | exact h.elim
    | (obtain ⟨h1, h2, h3, h4, h5, h6, h7⟩ := h
       rcases Int.lt_or_eq_of_le h3 with h8 | h8
       · exact ⟨_, ⟨h1, h2, h3, h4, h5, fun _ => ⟨rfl, rfl⟩, fun e => by omega⟩, h6 h8⟩
       · exact ⟨_, ⟨h1, h2, h3, h4, h5, fun e => by omega, fun _ => ⟨rfl, rfl⟩⟩, h7 h8⟩)
    | exact ⟨_, ⟨rfl, rfl⟩, h⟩ | exact ⟨_, ⟨h.1, rfl, rfl⟩, h.2⟩ | exact ⟨_, ⟨h.1, h.2.1, rfl, rfl⟩, h.2.2⟩ | exact ⟨_, ⟨h.1, h.2.1, h.2.2.1, rfl, rfl⟩, h.2.2.2⟩ | exact ⟨_, ⟨h.1, h.2.1, h.2.2.1, h.2.2.2.1, rfl, rfl⟩, h.2.2.2.2⟩ | exact ⟨_, ⟨h.1, h.2.1, h.2.2.1, h.2.2.2.1, h.2.2.2.2.1, rfl, rfl⟩, h.2.2.2.2.2⟩ | exact ⟨_, ⟨h.1, h.2.1, h.2.2.1, h.2.2.2.1, h.2.2.2.2.1, h.2.2.2.2.2.1, rfl, rfl⟩, h.2.2.2.2.2.2⟩ | exact ⟨_, ⟨h.1, h.2.1, h.2.2.1, h.2.2.2.1, h.2.2.2.2.1, h.2.2.2.2.2.1, h.2.2.2.2.2.2.1, rfl, rfl⟩, h.2.2.2.2.2.2.2⟩
theorem aFieldAddr_ex {t : TypeId} {y : Operand} {i : Nat} (h : aFieldAddr P s t y i K) : ∃ r, aFieldAddr P s t y i (fun r' s' => r' = r ∧ s' = s) ∧ K r s := by
  unfold aFieldAddr at h ⊢
  (repeat' split at h)
  all_goals first | exact h.elim | exact h.2.elim | exact h.2.2.elim | exact h.2.2.2.elim | exact ⟨_, ⟨rfl, rfl⟩, h⟩ | exact ⟨_, ⟨h.1, rfl, rfl⟩, h.2⟩ | exact ⟨_, ⟨h.1, h.2.1, rfl, rfl⟩, h.2.2⟩ | exact ⟨_, ⟨h.1, h.2.1, h.2.2.1, rfl, rfl⟩, h.2.2.2⟩ | exact ⟨_, ⟨h.1, h.2.1, h.2.2.1, h.2.2.2.1, rfl, rfl⟩, h.2.2.2.2⟩ | exact ⟨_, ⟨h.1, h.2.1, h.2.2.1, h.2.2.2.1, h.2.2.2.2.1, rfl, rfl⟩, h.2.2.2.2.2⟩ | exact ⟨_, ⟨h.1, h.2.1, h.2.2.1, h.2.2.2.1, h.2.2.2.2.1, h.2.2.2.2.2.1, rfl, rfl⟩, h.2.2.2.2.2.2⟩
theorem aField_ex {t : TypeId} {y : Operand} {i : Nat} (h : aField P s t y i K) : ∃ r, aField P s t y i (fun r' s' => r' = r ∧ s' = s) ∧ K r s := by
  unfold aField at h ⊢
  (repeat' split at h) <;> first | exact h.elim | exact aPart_ex h
theorem aIndexAddr_ex {t : TypeId} {y z : Operand} (h : aIndexAddr P s t y z K) : ∃ r, aIndexAddr P s t y z (fun r' s' => r' = r ∧ s' = s) ∧ K r s := by
  unfold aIndexAddr at h ⊢
  (repeat' split at h)
  all_goals first | exact h.elim | exact h.2.elim | exact h.2.2.elim | exact h.2.2.2.elim | exact ⟨_, ⟨rfl, rfl⟩, h⟩ | exact ⟨_, ⟨h.1, rfl, rfl⟩, h.2⟩ | exact ⟨_, ⟨h.1, h.2.1, rfl, rfl⟩, h.2.2⟩ | exact ⟨_, ⟨h.1, h.2.1, h.2.2.1, rfl, rfl⟩, h.2.2.2⟩ | exact ⟨_, ⟨h.1, h.2.1, h.2.2.1, h.2.2.2.1, rfl, rfl⟩, h.2.2.2.2⟩ | exact ⟨_, ⟨h.1, h.2.1, h.2.2.1, h.2.2.2.1, h.2.2.2.2.1, rfl, rfl⟩, h.2.2.2.2.2⟩ | exact ⟨_, ⟨h.1, h.2.1, h.2.2.1, h.2.2.2.1, h.2.2.2.2.1, h.2.2.2.2.2.1, rfl, rfl⟩, h.2.2.2.2.2.2⟩
theorem aIndex_ex {t : TypeId} {y z : Operand} (h : aIndex P s t y z K) : ∃ r, aIndex P s t y z (fun r' s' => r' = r ∧ s' = s) ∧ K r s := by
  unfold aIndex at h ⊢
  (repeat' split at h)
  all_goals first | exact h.elim | exact h.2.2.elim | exact ⟨_, ⟨rfl, rfl⟩, h⟩ | exact ⟨_, ⟨h.1, rfl, rfl⟩, h.2⟩ | exact ⟨_, ⟨h.1, h.2.1, rfl, rfl⟩, h.2.2⟩ | exact ⟨_, ⟨h.1, h.2.1, h.2.2.1, rfl, rfl⟩, h.2.2.2⟩ | (obtain ⟨h1, h2, h3⟩ := h; obtain ⟨r, h4, h5⟩ := aPart_ex h3; exact ⟨r, ⟨h1, h2, h4⟩, h5⟩)
theorem aExtract_ex {y : Operand} {i : Nat} (h : aExtract s y i K) : ∃ r, aExtract s y i (fun r' s' => r' = r ∧ s' = s) ∧ K r s := by
  unfold aExtract at h ⊢
  (repeat' split at h)
  all_goals first | exact h.elim | exact h.2.elim | exact h.2.2.elim | exact h.2.2.2.elim | exact ⟨_, ⟨rfl, rfl⟩, h⟩ | exact ⟨_, ⟨h.1, rfl, rfl⟩, h.2⟩ | exact ⟨_, ⟨h.1, h.2.1, rfl, rfl⟩, h.2.2⟩ | exact ⟨_, ⟨h.1, h.2.1, h.2.2.1, rfl, rfl⟩, h.2.2.2⟩ | exact ⟨_, ⟨h.1, h.2.1, h.2.2.1, h.2.2.2.1, rfl, rfl⟩, h.2.2.2.2⟩ | exact ⟨_, ⟨h.1, h.2.1, h.2.2.1, h.2.2.2.1, h.2.2.2.2.1, rfl, rfl⟩, h.2.2.2.2.2⟩ | exact ⟨_, ⟨h.1, h.2.1, h.2.2.1, h.2.2.2.1, h.2.2.2.2.1, h.2.2.2.2.2.1, rfl, rfl⟩, h.2.2.2.2.2.2⟩
theorem aLen_ex {t : TypeId} {y : Operand} (h : aLen P s t y K) : ∃ r, aLen P s t y (fun r' s' => r' = r ∧ s' = s) ∧ K r s := by
  unfold aLen at h ⊢
  (repeat' split at h)
  all_goals first | exact h.elim | exact h.2.elim | exact h.2.2.elim | exact h.2.2.2.elim | exact ⟨_, ⟨rfl, rfl⟩, h⟩ | exact ⟨_, ⟨h.1, rfl, rfl⟩, h.2⟩ | exact ⟨_, ⟨h.1, h.2.1, rfl, rfl⟩, h.2.2⟩ | exact ⟨_, ⟨h.1, h.2.1, h.2.2.1, rfl, rfl⟩, h.2.2.2⟩ | exact ⟨_, ⟨h.1, h.2.1, h.2.2.1, h.2.2.2.1, rfl, rfl⟩, h.2.2.2.2⟩ | exact ⟨_, ⟨h.1, h.2.1, h.2.2.1, h.2.2.2.1, h.2.2.2.2.1, rfl, rfl⟩, h.2.2.2.2.2⟩ | exact ⟨_, ⟨h.1, h.2.1, h.2.2.1, h.2.2.2.1, h.2.2.2.2.1, h.2.2.2.2.2.1, rfl, rfl⟩, h.2.2.2.2.2.2⟩
theorem aMin_ex {mn : Bool} {y z : Operand} (h : aMin s mn y z K) : ∃ r, aMin s mn y z (fun r' s' => r' = r ∧ s' = s) ∧ K r s := by
  unfold aMin at h ⊢
  split at h <;> first | exact ⟨_, ⟨rfl, rfl⟩, h⟩ | exact h.elim
end ex


section heapparts
variable {P : Program} {s s1 : St} {K K1 : A → St → Prop}

theorem aheap_frame {o : Op} (h : aheap P s o K) : aheap P s o fun r s' => K r s' ∧ s'.t = s.t := by
  cases o
  case indexAddr t y ix => obtain ⟨e, c, kk, i, p, h1, h2, h3, h4, h5⟩ := h; exact ⟨e, c, kk, i, p, h1, h2, h3, h4, h5, rfl⟩
  case load t y => obtain ⟨p, c, h1, h2, h3, h4, h5⟩ := h; exact ⟨p, c, h1, h2, h3, h4, h5, rfl⟩
  case store t y z => obtain ⟨p, c, H, h1, h2, h3, h4, h5⟩ := h; exact ⟨p, c, H, h1, h2, h3, h4, h5, rfl⟩
  case slice t y lo hi mx =>
    cases mx with
    | none => obtain ⟨e, c, n, p, q, r, h1, h2, h3, h4, h5, h6, h7⟩ := h; exact ⟨e, c, n, p, q, r, h1, h2, h3, h4, h5, h6, h7, rfl⟩
    | some m => obtain ⟨e, c, n, p, b, q, h1, h2, h3, h4, h5, h6, h7, h8, h9, h10, h11, h12⟩ := h; exact ⟨e, c, n, p, b, q, h1, h2, h3, h4, h5, h6, h7, h8, h9, h10, h11, h12, rfl⟩
  case makeSlice t l c => obtain ⟨e, b, z, kl, kc, n, h1, h2, h3, h4, h5, h6, h7, h8, h9⟩ := h; exact ⟨e, b, z, kl, kc, n, h1, h2, h3, h4, h5, h6, h7, h8, h9, rfl⟩
  case alloc e => obtain ⟨z, h1, h2, h3⟩ := h; exact ⟨z, h1, h2, h3, rfl⟩
  case box e y => obtain ⟨z, h1, h2, h3⟩ := h; exact ⟨z, h1, h2, h3, rfl⟩
  case buildSlice t len parts => obtain ⟨e, cs, h1, h2, h3, h4, h5, h6⟩ := h; exact ⟨e, cs, h1, h2, h3, h4, h5, h6, rfl⟩
  case nilCheck y => obtain ⟨k, off, h1, h2⟩ := h; exact ⟨k, off, h1, h2, rfl⟩
  case makeFunc fn first captured => obtain ⟨f, ks, h1, h2, h3, h4⟩ := h; exact ⟨f, ks, h1, h2, h3, h4, rfl⟩
  case binOp op t y z t2 => obtain ⟨e, c, n, h1, h2, h3, h4, h5, h6, h7⟩ := h; exact ⟨e, c, n, h1, h2, h3, h4, h5, ⟨h6, rfl⟩, fun e => ⟨h7 e, rfl⟩⟩
  case call c =>
    unfold aheap at h ⊢
    simp only [] at h ⊢
    split at h
    · split at h
      · obtain ⟨e, v, n, h1, h2, h3, h4⟩ := h; exact ⟨e, v, n, h1, h2, h3, h4, trivial⟩
      · obtain ⟨e, v, n, h1, h2, h3, h4⟩ := h; exact ⟨e, v, n, h1, h2, h3, h4, trivial⟩
      · rcases h with ⟨rfl, e, by_, zc, v, n, u, ys, p, h1, h2, h3, h4, h5, h6, h7, h8, h9, h10, h11⟩ | ⟨e, by_, zc, v, n, kn, kq, m, p, h1, h2, h3, h4, h5, h6, h7, h8, h9, h10, h11, h12⟩
        · exact .inl ⟨rfl, e, by_, zc, v, n, u, ys, p, h1, h2, h3, h4, h5, h6, h7, h8, h9, h10, h11, rfl⟩
        · exact .inr ⟨e, by_, zc, v, n, kn, kq, m, p, h1, h2, h3, h4, h5, h6, h7, h8, h9, h10, h11, h12, rfl⟩
      · obtain ⟨rfl, e, v, u, ys, p, h1, h2, h3, h4, h5, h6⟩ := h; exact ⟨rfl, e, v, u, ys, p, h1, h2, h3, h4, h5, h6, rfl⟩
      · obtain ⟨e, z, v, H, h1, h2, h3, h4, h5⟩ := h; exact ⟨e, z, v, H, h1, h2, h3, h4, h5, rfl⟩
      · exact h.elim
    · exact h.elim
  all_goals exact h.elim

theorem obd_congr {lo : Option Operand} (hx : ∀ y, lo = some y → aeval s1 y = aeval s y) (d : Int) : obd s1 d lo = obd s d lo := by
  cases lo with
  | none => rfl
  | some y => simp only [obd, hx y rfl]

theorem oneCs_congr {ps : List (Nat × Operand)} (hx : ∀ p ∈ ps, aeval s1 p.2 = aeval s p.2) : ps.map (fun p => aeval s1 p.2) = ps.map fun p => aeval s p.2 := List.map_congr_left hx

/-- What is done depends on the operands and on the counted blocks. -/
theorem aheap_congr {o : Op} (hx : ∀ x ∈ o.operands.toList, aeval s1 x = aeval s x) (hH : s1.H = s.H) {R : St → St} (hR : ∀ H, R (s.hput H) = s1.hput H) (hR0 : R s = s1) : aheap P s1 o K = aheap P s o fun r s' => K r (R s') := by
  have hput : ∀ H, s1.hput H = R (s.hput H) := fun H => (hR H).symm
  have hpush : ∀ q, s1.hpush q = R (s.hpush q) := fun q => by
    show s1.hput (s1.H ++ [some q]) = R (s.hput (s.H ++ [some q]))
    rw [hH, hR]
  cases o <;> simp only [Op.operands, Array.toList_append, List.mem_append, List.mem_cons] at hx
  case indexAddr t y ix => simp only [aheap, hx y (by simp), hx ix (by simp), hR0]
  case load t y => simp only [aheap, hx y (by simp), hH, hR0]
  case store t y z => simp only [aheap, hx y (by simp), hx z (by simp), hH, hput]
  case slice t y lo hi mx =>
    have hlo := obd_congr (s := s) (s1 := s1) (lo := lo) fun y hy => hx y (by subst hy; simp)
    have hhi := obd_congr (s := s) (s1 := s1) (lo := hi) fun y hy => hx y (by subst hy; simp)
    have hmx := obd_congr (s := s) (s1 := s1) (lo := mx) fun y hy => hx y (by subst hy; simp)
    cases mx with
    | none => simp only [aheap, hx y (by simp), hlo, hhi, hH, hR0]
    | some m => simp only [aheap, hx y (by simp), hlo, hhi, hmx, hR0]
  case makeSlice t l c => simp only [aheap, hx l (by simp), hx c (by simp), hH, hpush]
  case alloc e => simp only [aheap, hH, hpush]
  case box e y => simp only [aheap, hx y (by simp), hH, hpush]
  case buildSlice t len parts =>
    have := oneCs_congr (s := s) (s1 := s1) (ps := parts.toList) fun p hp => hx p.2 (by simp only [Array.toList_map, List.mem_map]; exact ⟨p, hp, rfl⟩)
    simp only [aheap, this, hH, hpush]
  case nilCheck y => simp only [aheap, hx y (by simp), hR0]
  case binOp op t y z t2 => simp only [aheap, hx y (by simp), hR0]
  case makeFunc fn first captured =>
    have : captured.toList.map (aeval s1) = captured.toList.map (aeval s) := List.map_congr_left fun y hy => hx y (.inr hy)
    simp only [aheap, this, hR0]
  case call c =>
    obtain ⟨callee, args, tys⟩ := c
    have hy : ∀ y ∈ args.toList, aeval s1 y = aeval s y := fun y hy => hx y (by
      simp only [Call.operands, Array.toList_append, List.mem_append]; exact .inr hy)
    unfold aheap
    simp only []
    cases callee with
    | builtin b =>
      simp only []
      split
      · rename_i y t ha _; simp only [hy y (by rw [ha]; simp), hR0]
      · rename_i y t ha _; simp only [hy y (by rw [ha]; simp), hH, hR0]
      · rename_i y z t t' ha _; simp only [hy y (by rw [ha]; simp), hy z (by rw [ha]; simp), hH, hput]
      · rename_i y z t t' ha _; simp only [hy y (by rw [ha]; simp), hy z (by rw [ha]; simp), hH, hput]
      · rename_i y t ha _; simp only [hy y (by rw [ha]; simp), hH, hput]
      · rfl
    | _ => rfl
  all_goals rfl

/-- The part that turns nothing. -/
theorem aheapP_ex {o : Op} (h : aheapP P s o K) : ∃ r, aheapP P s o (fun r' s' => r' = r ∧ s' = s) ∧ K r s := by
  cases o
  case indexAddr t y ix => obtain ⟨e, c, kk, i, p, h1, h2, h3, h4, h5⟩ := h; exact ⟨_, ⟨e, c, kk, i, p, h1, h2, h3, h4, rfl, rfl⟩, h5⟩
  case load t y => obtain ⟨p, c, h1, h2, h3, h4, h5⟩ := h; exact ⟨_, ⟨p, c, h1, h2, h3, h4, rfl, rfl⟩, h5⟩
  case slice t y lo hi mx =>
    cases mx with
    | none => obtain ⟨e, c, n, p, q, r, h1, h2, h3, h4, h5, h6, h7⟩ := h; exact ⟨_, ⟨e, c, n, p, q, r, h1, h2, h3, h4, h5, h6, rfl, rfl⟩, h7⟩
    | some m => obtain ⟨e, c, n, p, b, q, h1, h2, h3, h4, h5, h6, h7, h8, h9, h10, h11, h12⟩ := h; exact ⟨_, ⟨e, c, n, p, b, q, h1, h2, h3, h4, h5, h6, h7, h8, h9, h10, h11, rfl, rfl⟩, h12⟩
  case nilCheck y => obtain ⟨k, off, h1, h2⟩ := h; exact ⟨_, ⟨k, off, h1, rfl, rfl⟩, h2⟩
  case makeFunc fn first captured => obtain ⟨f, ks, h1, h2, h3, h4⟩ := h; exact ⟨_, ⟨f, ks, h1, h2, h3, rfl, rfl⟩, h4⟩
  case call c =>
    unfold aheapP at h ⊢
    simp only [] at h ⊢
    split at h
    · rename_i hc
      unfold aheap at h ⊢
      simp only [hc] at h ⊢
      split at h
      · obtain ⟨e, v, n, h1, h2, h3, h4⟩ := h; exact ⟨_, ⟨e, v, n, h1, h2, h3, rfl, trivial⟩, h4⟩
      · rename_i hb _ _; cases hb
      · rename_i hb _ _; cases hb
      · rename_i hb _ _; cases hb
      · rename_i hb _ _; cases hb
      · exact h.elim
    · exact h.elim
  all_goals exact h.elim

theorem aheapP_mono {o : Op} (hq : ∀ r s, K r s → K1 r s) (h : aheapP P s o K) : aheapP P s o K1 := by
  cases o
  case slice t y lo hi mx =>
    cases mx with
    | none => obtain ⟨e, c, n, p, q, r, h1, h2, h3, h4, h5, h6, h7⟩ := h; exact ⟨e, c, n, p, q, r, h1, h2, h3, h4, h5, h6, hq _ _ h7⟩
    | some m => obtain ⟨e, c, n, p, b, q, h1, h2, h3, h4, h5, h6, h7, h8, h9, h10, h11, h12⟩ := h; exact ⟨e, c, n, p, b, q, h1, h2, h3, h4, h5, h6, h7, h8, h9, h10, h11, hq _ _ h12⟩
  all_goals
    unfold aheapP at h ⊢
    first
      | exact aheap_mono hq h
      | exact h.elim
      | (simp only [] at h ⊢; split at h <;> first | exact aheap_mono hq h | exact h.elim)

theorem aheapP_congr {o : Op} (hx : ∀ x ∈ o.operands.toList, aeval s1 x = aeval s x) (hH : isLoad o = true → s1.H = s.H) (hK : ∀ r, K1 r s1 = K r s) : aheapP P s1 o K1 = aheapP P s o K := by
  cases o <;> simp only [Op.operands, Array.toList_append, List.mem_append, List.mem_cons] at hx
  case indexAddr t y ix => simp only [aheapP, aheap, hx y (by simp), hx ix (by simp), hK]
  case load t y => simp only [aheapP, aheap, hx y (by simp), hH rfl, hK]
  case slice t y lo hi mx =>
    have hlo := obd_congr (s := s) (s1 := s1) (lo := lo) fun y hy => hx y (by subst hy; simp)
    have hhi := obd_congr (s := s) (s1 := s1) (lo := hi) fun y hy => hx y (by subst hy; simp)
    have hmx := obd_congr (s := s) (s1 := s1) (lo := mx) fun y hy => hx y (by subst hy; simp)
    cases mx with
    | none => simp only [aheapP, aheap, hx y (by simp), hlo, hhi, hK]
    | some m => simp only [aheapP, aheap, hx y (by simp), hlo, hhi, hmx, hK]
  case nilCheck y => simp only [aheapP, aheap, hx y (by simp), hK]
  case makeFunc fn first captured =>
    have : captured.toList.map (aeval s1) = captured.toList.map (aeval s) := List.map_congr_left fun y hy => hx y (.inr hy)
    simp only [aheapP, aheap, this, hK]
  case call c =>
    obtain ⟨callee, args, tys⟩ := c
    have hy : ∀ y ∈ args.toList, aeval s1 y = aeval s y := fun y hy => hx y (by
      simp only [Call.operands, Array.toList_append, List.mem_append]; exact .inr hy)
    unfold aheapP aheap
    cases callee with
    | builtin b =>
      cases b
      case len =>
        simp only []
        split
        · rename_i y t _ ha _; simp only [hy y (by rw [ha]; simp), hK]
        all_goals first | rfl | contradiction
      all_goals rfl
    | _ => rfl
  all_goals rfl
end heapparts
end Go.Av
