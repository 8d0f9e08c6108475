/-
  A region whose order is open: the operations that write nothing may be taken first, in the order of the text; what is left is forced. Over any program. No toy.
-/
import Derived.Test.YtieagdjehjghdaaAvFun
import Derived.Still
set_option linter.all false
namespace Go.Av
open Go.RowKit

/-- Operations that leave the abstract state as it is. -/
def pureOp : Op → Bool
  | .move _ | .assign _ | .pick .. | .build .. | .buildSlice .. | .load .. | .binOp .. | .unOp .. | .convert .. | .makeFunc .. | .slice .. | .fieldAddr .. | .field .. | .indexAddr .. | .index .. | .extract .. => true
  | .call c => (match c.callee with | .value _ => true | .builtin .len => true | .builtin .min => true | .builtin .max => true | _ => false)
  | _ => false

/-- Operations that leave the blocks of one's own as they are. -/
def keepsH : Op → Bool
  | .alloc _ | .box .. | .store .. | .makeSlice .. => false
  | _ => true

def readsH : Op → Bool
  | .load .. => true
  | _ => false

def isCall : Op → Bool
  | .call c => (match c.callee with | .value _ => true | _ => false)
  | _ => false

/-- A pure call, what follows behind its result. -/
def PK (P : Program) (f : FuncId) (args : List A) (K : A → Prop) : Prop := ∃ r, PCall P f args r ∧ K r

def adop (P : Program) (s : St) (o : Op) (K : A → St → Prop) : Prop :=
  match o with
  | .call c => (match c.callee with
    | .value f => (match aCallee s f with
      | some (g, caps) => (match (c.args.toList.map (aeval s) ++ caps).mapM alow with
        | some as => PK P g as fun r => K r s
        | none => False)
      | none => False)
    | _ => aop P s (.call c) K)
  | o => aop P s o K

theorem aop_of_adop {P : Program} {s : St} {o : Op} {K : A → St → Prop} (h : adop P s o K) : aop P s o K := by
  unfold adop at h
  split at h
  · rename_i c
    split at h
    · rename_i f hf
      split at h
      · rename_i g caps hc
        split at h
        · rename_i as hl
          obtain ⟨r, hr, hk⟩ := h
          unfold aop
          simp only [hf, hc]
          exact ACall.pure hr hl hk
        · exact h.elim
      · exact h.elim
    · exact h
  · exact h

section frame
variable {P : Program} {s : St} {K : A → St → Prop}
theorem aPart_frame {e : TypeId} {cs : List C} {off : Nat} (h : aPart P s e cs off K) : aPart P s e cs off fun r s' => K r s' ∧ s' = s := by
  unfold aPart at h ⊢
  (repeat' split at h) <;> first | exact h.elim | exact ⟨h.1, h.2, rfl⟩ | exact ⟨h, rfl⟩
theorem aAlloc_frame {e : TypeId} (h : aAlloc P s e K) : aAlloc P s e fun r s' => K r s' ∧ s'.t = s.t := by
  unfold aAlloc at h ⊢
  (repeat' (first | exact ⟨h, rfl⟩ | exact h.elim | split at h | (obtain ⟨h0, h⟩ := h; refine ⟨h0, ?_⟩)))
theorem aBox_frame {y : Operand} (h : aBox s y K) : aBox s y fun r s' => K r s' ∧ s'.t = s.t := by
  unfold aBox at h ⊢
  (repeat' (first | exact ⟨h, rfl⟩ | exact h.elim | split at h | (obtain ⟨h0, h⟩ := h; refine ⟨h0, ?_⟩)))
theorem aBuild_frame {t : TypeId} {parts : Array (Nat × Operand)} (h : aBuild P s t parts K) : aBuild P s t parts fun r s' => K r s' ∧ s' = s := by
  unfold aBuild at h ⊢
  (repeat' (first | exact ⟨h, rfl⟩ | exact ⟨fun e => ⟨h.1 e, rfl⟩, fun e => ⟨h.2 e, rfl⟩⟩ | exact aPart_frame h | exact aLoadCells_mono (fun r hr => ⟨hr, rfl⟩) h | exact ibin_mono (fun r hr => ⟨hr, rfl⟩) h | exact ishift_mono (fun r hr => ⟨hr, rfl⟩) h | exact sbin_mono (fun r hr => ⟨hr, rfl⟩) h | exact h.elim | split at h | (obtain ⟨h0, h⟩ := h; refine ⟨h0, ?_⟩)))
theorem aBuildSlice_frame {t : TypeId} {len : Nat} {parts : Array (Nat × Operand)} (h : aBuildSlice P s t len parts K) : aBuildSlice P s t len parts fun r s' => K r s' ∧ s' = s := by
  unfold aBuildSlice at h ⊢
  (repeat' (first | exact ⟨h, rfl⟩ | exact ⟨fun e => ⟨h.1 e, rfl⟩, fun e => ⟨h.2 e, rfl⟩⟩ | exact aPart_frame h | exact aLoadCells_mono (fun r hr => ⟨hr, rfl⟩) h | exact ibin_mono (fun r hr => ⟨hr, rfl⟩) h | exact ishift_mono (fun r hr => ⟨hr, rfl⟩) h | exact sbin_mono (fun r hr => ⟨hr, rfl⟩) h | exact h.elim | split at h | (obtain ⟨h0, h⟩ := h; refine ⟨h0, ?_⟩)))
theorem aLoad_frame {t : TypeId} {y : Operand} (h : aLoad P s t y K) : aLoad P s t y fun r s' => K r s' ∧ s' = s := by
  unfold aLoad at h ⊢
  (repeat' (first | exact ⟨h, rfl⟩ | exact ⟨fun e => ⟨h.1 e, rfl⟩, fun e => ⟨h.2 e, rfl⟩⟩ | exact aPart_frame h | exact aLoadCells_mono (fun r hr => ⟨hr, rfl⟩) h | exact ibin_mono (fun r hr => ⟨hr, rfl⟩) h | exact ishift_mono (fun r hr => ⟨hr, rfl⟩) h | exact sbin_mono (fun r hr => ⟨hr, rfl⟩) h | exact h.elim | split at h | (obtain ⟨h0, h⟩ := h; refine ⟨h0, ?_⟩)))
theorem aStore_frame {t : TypeId} {y z : Operand} (h : aStore P s t y z K) : aStore P s t y z fun r s' => K r s' ∧ s'.t = s.t := by
  unfold aStore at h ⊢
  (repeat' (first | exact ⟨h, rfl⟩ | exact h.elim | split at h | (obtain ⟨h0, h⟩ := h; refine ⟨h0, ?_⟩)))
theorem aBin_frame {op : BinOp} {t : TypeId} {y z : Operand} (h : aBin P s op t y z K) : aBin P s op t y z fun r s' => K r s' ∧ s' = s := by
  unfold aBin at h ⊢
  (repeat' (first | exact ⟨h, rfl⟩ | exact ⟨fun e => ⟨h.1 e, rfl⟩, fun e => ⟨h.2 e, rfl⟩⟩ | exact aPart_frame h | exact aLoadCells_mono (fun r hr => ⟨hr, rfl⟩) h | exact ibin_mono (fun r hr => ⟨hr, rfl⟩) h | exact ishift_mono (fun r hr => ⟨hr, rfl⟩) h | exact sbin_mono (fun r hr => ⟨hr, rfl⟩) h | exact h.elim | split at h | (obtain ⟨h0, h⟩ := h; refine ⟨h0, ?_⟩)))
theorem aUn_frame {op : UnOp} {y : Operand} (h : aUn s op y K) : aUn s op y fun r s' => K r s' ∧ s' = s := by
  unfold aUn at h ⊢
  (repeat' (first | exact ⟨h, rfl⟩ | exact ⟨fun e => ⟨h.1 e, rfl⟩, fun e => ⟨h.2 e, rfl⟩⟩ | exact aPart_frame h | exact aLoadCells_mono (fun r hr => ⟨hr, rfl⟩) h | exact ibin_mono (fun r hr => ⟨hr, rfl⟩) h | exact ishift_mono (fun r hr => ⟨hr, rfl⟩) h | exact sbin_mono (fun r hr => ⟨hr, rfl⟩) h | exact h.elim | split at h | (obtain ⟨h0, h⟩ := h; refine ⟨h0, ?_⟩)))
theorem aConvert_frame {t t' : TypeId} {y : Operand} (h : aConvert P s t t' y K) : aConvert P s t t' y fun r s' => K r s' ∧ s' = s := by
  unfold aConvert at h ⊢
  (repeat' (first | exact ⟨h, rfl⟩ | exact ⟨fun e => ⟨h.1 e, rfl⟩, fun e => ⟨h.2 e, rfl⟩⟩ | exact aPart_frame h | exact aLoadCells_mono (fun r hr => ⟨hr, rfl⟩) h | exact ibin_mono (fun r hr => ⟨hr, rfl⟩) h | exact ishift_mono (fun r hr => ⟨hr, rfl⟩) h | exact sbin_mono (fun r hr => ⟨hr, rfl⟩) h | exact h.elim | split at h | (obtain ⟨h0, h⟩ := h; refine ⟨h0, ?_⟩)))
theorem aMakeFunc_frame {fn : Fn} {fs cs : Array Operand} (h : aMakeFunc s fn fs cs K) : aMakeFunc s fn fs cs fun r s' => K r s' ∧ s' = s := by
  unfold aMakeFunc at h ⊢
  (repeat' (first | exact ⟨h, rfl⟩ | exact ⟨fun e => ⟨h.1 e, rfl⟩, fun e => ⟨h.2 e, rfl⟩⟩ | exact aPart_frame h | exact aLoadCells_mono (fun r hr => ⟨hr, rfl⟩) h | exact ibin_mono (fun r hr => ⟨hr, rfl⟩) h | exact ishift_mono (fun r hr => ⟨hr, rfl⟩) h | exact sbin_mono (fun r hr => ⟨hr, rfl⟩) h | exact h.elim | split at h | (obtain ⟨h0, h⟩ := h; refine ⟨h0, ?_⟩)))
theorem aMake_frame {t : TypeId} {y z : Operand} (h : aMake P s t y z K) : aMake P s t y z fun r s' => K r s' ∧ s'.t = s.t := by
  unfold aMake at h ⊢
  (repeat' (first | exact ⟨h, rfl⟩ | exact h.elim | split at h | (obtain ⟨h0, h⟩ := h; refine ⟨h0, ?_⟩)))
theorem aSlice_frame {t : TypeId} {y : Operand} {lo hi mx : Option Operand} (h : aSlice P s t y lo hi mx K) : aSlice P s t y lo hi mx fun r s' => K r s' ∧ s' = s := by
  unfold aSlice at h ⊢
  (repeat' (first | exact ⟨h, rfl⟩ | exact ⟨fun e => ⟨h.1 e, rfl⟩, fun e => ⟨h.2 e, rfl⟩⟩ | exact aPart_frame h | exact aLoadCells_mono (fun r hr => ⟨hr, rfl⟩) h | exact ibin_mono (fun r hr => ⟨hr, rfl⟩) h | exact ishift_mono (fun r hr => ⟨hr, rfl⟩) h | exact sbin_mono (fun r hr => ⟨hr, rfl⟩) h | exact h.elim | split at h | (obtain ⟨h0, h⟩ := h; refine ⟨h0, ?_⟩)))
theorem aFieldAddr_frame {t : TypeId} {y : Operand} {i : Nat} (h : aFieldAddr P s t y i K) : aFieldAddr P s t y i fun r s' => K r s' ∧ s' = s := by
  unfold aFieldAddr at h ⊢
  (repeat' (first | exact ⟨h, rfl⟩ | exact ⟨fun e => ⟨h.1 e, rfl⟩, fun e => ⟨h.2 e, rfl⟩⟩ | exact aPart_frame h | exact aLoadCells_mono (fun r hr => ⟨hr, rfl⟩) h | exact ibin_mono (fun r hr => ⟨hr, rfl⟩) h | exact ishift_mono (fun r hr => ⟨hr, rfl⟩) h | exact sbin_mono (fun r hr => ⟨hr, rfl⟩) h | exact h.elim | split at h | (obtain ⟨h0, h⟩ := h; refine ⟨h0, ?_⟩)))
theorem aField_frame {t : TypeId} {y : Operand} {i : Nat} (h : aField P s t y i K) : aField P s t y i fun r s' => K r s' ∧ s' = s := by
  unfold aField at h ⊢
  (repeat' (first | exact ⟨h, rfl⟩ | exact ⟨fun e => ⟨h.1 e, rfl⟩, fun e => ⟨h.2 e, rfl⟩⟩ | exact aPart_frame h | exact aLoadCells_mono (fun r hr => ⟨hr, rfl⟩) h | exact ibin_mono (fun r hr => ⟨hr, rfl⟩) h | exact ishift_mono (fun r hr => ⟨hr, rfl⟩) h | exact sbin_mono (fun r hr => ⟨hr, rfl⟩) h | exact h.elim | split at h | (obtain ⟨h0, h⟩ := h; refine ⟨h0, ?_⟩)))
theorem aIndexAddr_frame {t : TypeId} {y z : Operand} (h : aIndexAddr P s t y z K) : aIndexAddr P s t y z fun r s' => K r s' ∧ s' = s := by
  unfold aIndexAddr at h ⊢
  (repeat' (first | exact ⟨h, rfl⟩ | exact ⟨fun e => ⟨h.1 e, rfl⟩, fun e => ⟨h.2 e, rfl⟩⟩ | exact aPart_frame h | exact aLoadCells_mono (fun r hr => ⟨hr, rfl⟩) h | exact ibin_mono (fun r hr => ⟨hr, rfl⟩) h | exact ishift_mono (fun r hr => ⟨hr, rfl⟩) h | exact sbin_mono (fun r hr => ⟨hr, rfl⟩) h | exact h.elim | split at h | (obtain ⟨h0, h⟩ := h; refine ⟨h0, ?_⟩)))
theorem aIndex_frame {t : TypeId} {y z : Operand} (h : aIndex P s t y z K) : aIndex P s t y z fun r s' => K r s' ∧ s' = s := by
  unfold aIndex at h ⊢
  (repeat' (first | exact ⟨h, rfl⟩ | exact ⟨fun e => ⟨h.1 e, rfl⟩, fun e => ⟨h.2 e, rfl⟩⟩ | exact aPart_frame h | exact aLoadCells_mono (fun r hr => ⟨hr, rfl⟩) h | exact ibin_mono (fun r hr => ⟨hr, rfl⟩) h | exact ishift_mono (fun r hr => ⟨hr, rfl⟩) h | exact sbin_mono (fun r hr => ⟨hr, rfl⟩) h | exact h.elim | split at h | (obtain ⟨h0, h⟩ := h; refine ⟨h0, ?_⟩)))
theorem aExtract_frame {y : Operand} {i : Nat} (h : aExtract s y i K) : aExtract s y i fun r s' => K r s' ∧ s' = s := by
  unfold aExtract at h ⊢
  (repeat' (first | exact ⟨h, rfl⟩ | exact ⟨fun e => ⟨h.1 e, rfl⟩, fun e => ⟨h.2 e, rfl⟩⟩ | exact aPart_frame h | exact aLoadCells_mono (fun r hr => ⟨hr, rfl⟩) h | exact ibin_mono (fun r hr => ⟨hr, rfl⟩) h | exact ishift_mono (fun r hr => ⟨hr, rfl⟩) h | exact sbin_mono (fun r hr => ⟨hr, rfl⟩) h | exact h.elim | split at h | (obtain ⟨h0, h⟩ := h; refine ⟨h0, ?_⟩)))
theorem aLen_frame {t : TypeId} {y : Operand} (h : aLen P s t y K) : aLen P s t y fun r s' => K r s' ∧ s' = s := by
  unfold aLen at h ⊢
  (repeat' (first | exact ⟨h, rfl⟩ | exact ⟨fun e => ⟨h.1 e, rfl⟩, fun e => ⟨h.2 e, rfl⟩⟩ | exact aPart_frame h | exact aLoadCells_mono (fun r hr => ⟨hr, rfl⟩) h | exact ibin_mono (fun r hr => ⟨hr, rfl⟩) h | exact ishift_mono (fun r hr => ⟨hr, rfl⟩) h | exact sbin_mono (fun r hr => ⟨hr, rfl⟩) h | exact h.elim | split at h | (obtain ⟨h0, h⟩ := h; refine ⟨h0, ?_⟩)))
theorem aAppend_frame {t : TypeId} {y z : Operand} (h : aAppend P s t y z K) : aAppend P s t y z fun r s' => K r s' ∧ s'.t = s.t ∧ s'.h = s.h := by
  unfold aAppend at h ⊢
  (repeat' (first | exact ⟨h, rfl, rfl⟩ | exact h.elim | split at h | (obtain ⟨h0, h⟩ := h; refine ⟨h0, ?_⟩)))
theorem aMin_frame {mn : Bool} {y z : Operand} (h : aMin s mn y z K) : aMin s mn y z fun r s' => K r s' ∧ s' = s := by
  unfold aMin at h ⊢
  (repeat' (first | exact ⟨h, rfl⟩ | exact ⟨fun e => ⟨h.1 e, rfl⟩, fun e => ⟨h.2 e, rfl⟩⟩ | exact aPart_frame h | exact aLoadCells_mono (fun r hr => ⟨hr, rfl⟩) h | exact ibin_mono (fun r hr => ⟨hr, rfl⟩) h | exact ishift_mono (fun r hr => ⟨hr, rfl⟩) h | exact sbin_mono (fun r hr => ⟨hr, rfl⟩) h | exact h.elim | split at h | (obtain ⟨h0, h⟩ := h; refine ⟨h0, ?_⟩)))
end frame

section congr
variable {P : Program} {s s1 : St} {K K1 : A → St → Prop}
theorem aPart_congr (hK : ∀ r, K1 r s1 = K r s) {e : TypeId} {cs : List C} {off : Nat} : aPart P s1 e cs off K1 = aPart P s e cs off K := by
  unfold aPart; simp only [hK]
theorem aBuild_congr (hK : ∀ r, K1 r s1 = K r s) {t : TypeId} {parts : Array (Nat × Operand)} (hy : (parts.toList.map fun p => (p.1, aeval s1 p.2)) = parts.toList.map fun p => (p.1, aeval s p.2)) : aBuild P s1 t parts K1 = aBuild P s t parts K := by
  unfold aBuild; simp only [hy, hK]
theorem aBuildSlice_congr (hK : ∀ r, K1 r s1 = K r s) {t : TypeId} {len : Nat} {parts : Array (Nat × Operand)} (hy : parts.toList.mapM (fun p => lowCells (aeval s1 p.2)) = parts.toList.mapM (fun p => lowCells (aeval s p.2))) : aBuildSlice P s1 t len parts K1 = aBuildSlice P s t len parts K := by
  unfold aBuildSlice; simp only [hy, hK]
theorem aLoad_congr (hK : ∀ r, K1 r s1 = K r s) {t : TypeId} {y : Operand} (hy : aeval s1 y = aeval s y) (hh : s1.h = s.h) : aLoad P s1 t y K1 = aLoad P s t y K := by
  unfold aLoad; simp only [hy, hh, hK]
theorem aBin_congr (hK : ∀ r, K1 r s1 = K r s) {op : BinOp} {t : TypeId} {y z : Operand} (hy : aeval s1 y = aeval s y) (hz : aeval s1 z = aeval s z) : aBin P s1 op t y z K1 = aBin P s op t y z K := by
  unfold aBin; simp only [hy, hz, hK]
theorem aUn_congr (hK : ∀ r, K1 r s1 = K r s) {op : UnOp} {y : Operand} (hy : aeval s1 y = aeval s y) : aUn s1 op y K1 = aUn s op y K := by
  unfold aUn; simp only [hy, hK]
theorem aConvert_congr (hK : ∀ r, K1 r s1 = K r s) {t t' : TypeId} {y : Operand} (hy : aeval s1 y = aeval s y) : aConvert P s1 t t' y K1 = aConvert P s t t' y K := by
  unfold aConvert; simp only [hy, hK]
theorem aMakeFunc_congr (hK : ∀ r, K1 r s1 = K r s) {fn : Fn} {fs cs : Array Operand} (hy : refIds s1 cs.toList = refIds s cs.toList) : aMakeFunc s1 fn fs cs K1 = aMakeFunc s fn fs cs K := by
  unfold aMakeFunc; simp only [hy, hK]
theorem aSlice_congr (hK : ∀ r, K1 r s1 = K r s) {t : TypeId} {y : Operand} {lo hi mx : Option Operand} (hy : aeval s1 y = aeval s y) (hlo : ∀ d, obd s1 d lo = obd s d lo) (hhi : ∀ d, obd s1 d hi = obd s d hi) (hmx : ∀ d, obd s1 d mx = obd s d mx) : aSlice P s1 t y lo hi mx K1 = aSlice P s t y lo hi mx K := by
  unfold aSlice
  cases mx with
  | none => simp only [hy, hlo, hhi, hK]
  | some m => have := hmx 0; simp only [hy, hlo, hhi, this, hK]
theorem aFieldAddr_congr (hK : ∀ r, K1 r s1 = K r s) {t : TypeId} {y : Operand} {i : Nat} (hy : aeval s1 y = aeval s y) : aFieldAddr P s1 t y i K1 = aFieldAddr P s t y i K := by
  unfold aFieldAddr; simp only [hy, hK]
theorem aField_congr (hK : ∀ r, K1 r s1 = K r s) {t : TypeId} {y : Operand} {i : Nat} (hy : aeval s1 y = aeval s y) : aField P s1 t y i K1 = aField P s t y i K := by
  unfold aField; simp only [hy, hK, aPart_congr hK]
theorem aIndexAddr_congr (hK : ∀ r, K1 r s1 = K r s) {t : TypeId} {y z : Operand} (hy : aeval s1 y = aeval s y) (hz : aeval s1 z = aeval s z) : aIndexAddr P s1 t y z K1 = aIndexAddr P s t y z K := by
  unfold aIndexAddr; simp only [hy, hz, hK]
theorem aIndex_congr (hK : ∀ r, K1 r s1 = K r s) {t : TypeId} {y z : Operand} (hy : aeval s1 y = aeval s y) (hz : aeval s1 z = aeval s z) : aIndex P s1 t y z K1 = aIndex P s t y z K := by
  unfold aIndex; simp only [hy, hz, hK, aPart_congr hK]
theorem aExtract_congr (hK : ∀ r, K1 r s1 = K r s) {y : Operand} {i : Nat} (hy : aeval s1 y = aeval s y) : aExtract s1 y i K1 = aExtract s y i K := by
  unfold aExtract; simp only [hy, hK]
theorem aLen_congr (hK : ∀ r, K1 r s1 = K r s) {t : TypeId} {y : Operand} (hy : aeval s1 y = aeval s y) : aLen P s1 t y K1 = aLen P s t y K := by
  unfold aLen; simp only [hy, hK]
theorem aMin_congr (hK : ∀ r, K1 r s1 = K r s) {mn : Bool} {y z : Operand} (hy : aeval s1 y = aeval s y) (hz : aeval s1 z = aeval s z) : aMin s1 mn y z K1 = aMin s mn y z K := by
  unfold aMin; simp only [hy, hz, hK]
end congr

section setslot
variable {P : Program} {s : St} {K : A → St → Prop} {d : Nat} {q : A}
theorem aAlloc_set {e : TypeId} : aAlloc P (s.set d q) e K = aAlloc P s e fun r s' => K r (s'.set d q) := rfl
theorem aBox_set {y : Operand} (hy : aeval (s.set d q) y = aeval s y) : aBox (s.set d q) y K = aBox s y fun r s' => K r (s'.set d q) := by
  unfold aBox; simp only [hy]; rfl
theorem aStore_set {t : TypeId} {y z : Operand} (hy : aeval (s.set d q) y = aeval s y) (hz : aeval (s.set d q) z = aeval s z) : aStore P (s.set d q) t y z K = aStore P s t y z fun r s' => K r (s'.set d q) := by
  unfold aStore; simp only [hy, hz]; rfl
theorem aMake_set {t : TypeId} {y z : Operand} (hy : aeval (s.set d q) y = aeval s y) (hz : aeval (s.set d q) z = aeval s z) : aMake P (s.set d q) t y z K = aMake P s t y z fun r s' => K r (s'.set d q) := by
  unfold aMake; simp only [hy, hz]; rfl
theorem aAppend_set {t : TypeId} {y z : Operand} (hy : aeval (s.set d q) y = aeval s y) (hz : aeval (s.set d q) z = aeval s z) : aAppend P (s.set d q) t y z K = aAppend P s t y z fun r s' => K r (s'.set d q) := by
  unfold aAppend; simp only [hy, hz]; rfl
end setslot

section ex
variable {P : Program} {s : St} {K : A → St → Prop}
theorem aPart_ex {e : TypeId} {cs : List C} {off : Nat} (h : aPart P s e cs off K) : ∃ r, aPart P s e cs off (fun r' s' => r' = r ∧ s' = s) ∧ K r s := by
  unfold aPart at h ⊢
  (repeat' split at h) <;> first | exact h.elim | exact ⟨_, ⟨h.1, rfl, rfl⟩, h.2⟩ | exact ⟨_, ⟨rfl, rfl⟩, h⟩
theorem aLoadCells_ex {cs : List C} {ag : Bool} {sz : Nat} {K : A → Prop} (h : aLoadCells cs ag sz K) : ∃ r, aLoadCells cs ag sz (· = r) ∧ K r := by
  unfold aLoadCells at h ⊢
  cases ag with
  | true => exact ⟨_, ⟨h.1, rfl⟩, h.2⟩
  | false => cases cs with
    | nil => exact h.elim
    | cons c cs => exact ⟨_, rfl, h⟩
theorem ibin_ex {op : BinOp} {k : IntKind} {a b : Int} {K : Value → Prop} (h : ibin op k a b K) : ∃ r, ibin op k a b (· = r) ∧ K r := by
  cases op <;> first | exact ⟨_, rfl, h⟩ | exact ⟨_, ⟨h.1, rfl⟩, h.2⟩ | exact h.elim
theorem ishift_ex {op : BinOp} {k : IntKind} {a b : Int} {K : Value → Prop} (h : ishift op k a b K) : ∃ r, ishift op k a b (· = r) ∧ K r := by
  cases op <;> first | exact ⟨_, ⟨h.1, rfl⟩, h.2⟩ | exact h.elim
theorem sbin_ex {op : BinOp} {a b : List UInt8} {K : D → Prop} (h : sbin op a b K) : ∃ r, sbin op a b (· = r) ∧ K r := by
  cases op <;> first | exact ⟨_, rfl, h⟩ | exact ⟨_, ⟨h.1, rfl⟩, h.2⟩ | exact h.elim
theorem aBuild_ex {t : TypeId} {parts : Array (Nat × Operand)} (h : aBuild P s t parts K) : ∃ r, aBuild P s t parts (fun r' s' => r' = r ∧ s' = s) ∧ K r s := by
  unfold aBuild at h ⊢
  (repeat' split at h)
  all_goals first | exact h.elim | exact h.2.elim | exact h.2.2.elim | exact h.2.2.2.elim | exact ⟨_, ⟨rfl, rfl⟩, h⟩ | exact ⟨_, ⟨h.1, rfl, rfl⟩, h.2⟩ | exact ⟨_, ⟨h.1, h.2.1, rfl, rfl⟩, h.2.2⟩ | exact ⟨_, ⟨h.1, h.2.1, h.2.2.1, rfl, rfl⟩, h.2.2.2⟩ | exact ⟨_, ⟨h.1, h.2.1, h.2.2.1, h.2.2.2.1, rfl, rfl⟩, h.2.2.2.2⟩ | exact ⟨_, ⟨h.1, h.2.1, h.2.2.1, h.2.2.2.1, h.2.2.2.2.1, rfl, rfl⟩, h.2.2.2.2.2⟩ | exact ⟨_, ⟨h.1, h.2.1, h.2.2.1, h.2.2.2.1, h.2.2.2.2.1, h.2.2.2.2.2.1, rfl, rfl⟩, h.2.2.2.2.2.2⟩
theorem aBuildSlice_ex {t : TypeId} {len : Nat} {parts : Array (Nat × Operand)} (h : aBuildSlice P s t len parts K) : ∃ r, aBuildSlice P s t len parts (fun r' s' => r' = r ∧ s' = s) ∧ K r s := by
  unfold aBuildSlice at h ⊢
  (repeat' split at h)
  all_goals first | exact h.elim | exact h.2.elim | exact h.2.2.elim | exact h.2.2.2.elim | exact ⟨_, ⟨rfl, rfl⟩, h⟩ | exact ⟨_, ⟨h.1, rfl, rfl⟩, h.2⟩ | exact ⟨_, ⟨h.1, h.2.1, rfl, rfl⟩, h.2.2⟩ | exact ⟨_, ⟨h.1, h.2.1, h.2.2.1, rfl, rfl⟩, h.2.2.2⟩ | exact ⟨_, ⟨h.1, h.2.1, h.2.2.1, h.2.2.2.1, rfl, rfl⟩, h.2.2.2.2⟩ | exact ⟨_, ⟨h.1, h.2.1, h.2.2.1, h.2.2.2.1, h.2.2.2.2.1, rfl, rfl⟩, h.2.2.2.2.2⟩ | exact ⟨_, ⟨h.1, h.2.1, h.2.2.1, h.2.2.2.1, h.2.2.2.2.1, h.2.2.2.2.2.1, rfl, rfl⟩, h.2.2.2.2.2.2⟩
theorem aLoad_ex {t : TypeId} {y : Operand} (h : aLoad P s t y K) : ∃ r, aLoad P s t y (fun r' s' => r' = r ∧ s' = s) ∧ K r s := by
  unfold aLoad at h ⊢
  (repeat' split at h)
  · obtain ⟨r, h1, h2⟩ := aLoadCells_ex h; exact ⟨r, aLoadCells_mono (fun v hv => ⟨hv, rfl⟩) h1, h2⟩
  · exact h.elim
  · obtain ⟨r, h1, h2⟩ := aLoadCells_ex h; exact ⟨r, aLoadCells_mono (fun v hv => ⟨hv, rfl⟩) h1, h2⟩
  · exact h.elim
theorem aBin_ex {op : BinOp} {t : TypeId} {y z : Operand} (h : aBin P s op t y z K) : ∃ r, aBin P s op t y z (fun r' s' => r' = r ∧ s' = s) ∧ K r s := by
  unfold aBin at h ⊢
  (repeat' split at h)
  · obtain ⟨r, h1, h2⟩ := ishift_ex h; exact ⟨_, ishift_mono (fun v hv => by subst hv; exact ⟨rfl, rfl⟩) h1, h2⟩
  · obtain ⟨r, h1, h2⟩ := ibin_ex h.2; exact ⟨_, ⟨h.1, ibin_mono (fun v hv => by subst hv; exact ⟨rfl, rfl⟩) h1⟩, h2⟩
  · exact ⟨_, ⟨h.1, rfl, rfl⟩, h.2⟩
  · exact ⟨_, ⟨h.1, rfl, rfl⟩, h.2⟩
  · exact h.2.elim
  · obtain ⟨r, h1, h2⟩ := sbin_ex h; exact ⟨_, sbin_mono (fun v hv => by subst hv; exact ⟨rfl, rfl⟩) h1, h2⟩
  · exact h.elim
theorem aUn_ex {op : UnOp} {y : Operand} (h : aUn s op y K) : ∃ r, aUn s op y (fun r' s' => r' = r ∧ s' = s) ∧ K r s := by
  unfold aUn at h ⊢
  split at h <;> first | exact ⟨_, ⟨rfl, rfl⟩, h⟩ | exact h.elim
theorem aConvert_ex {t t' : TypeId} {y : Operand} (h : aConvert P s t t' y K) : ∃ r, aConvert P s t t' y (fun r' s' => r' = r ∧ s' = s) ∧ K r s := by
  unfold aConvert at h ⊢
  (repeat' split at h)
  all_goals first | exact h.elim | exact h.2.elim | exact h.2.2.elim | exact h.2.2.2.elim | exact ⟨_, ⟨rfl, rfl⟩, h⟩ | exact ⟨_, ⟨h.1, rfl, rfl⟩, h.2⟩ | exact ⟨_, ⟨h.1, h.2.1, rfl, rfl⟩, h.2.2⟩ | exact ⟨_, ⟨h.1, h.2.1, h.2.2.1, rfl, rfl⟩, h.2.2.2⟩ | exact ⟨_, ⟨h.1, h.2.1, h.2.2.1, h.2.2.2.1, rfl, rfl⟩, h.2.2.2.2⟩ | exact ⟨_, ⟨h.1, h.2.1, h.2.2.1, h.2.2.2.1, h.2.2.2.2.1, rfl, rfl⟩, h.2.2.2.2.2⟩ | exact ⟨_, ⟨h.1, h.2.1, h.2.2.1, h.2.2.2.1, h.2.2.2.2.1, h.2.2.2.2.2.1, rfl, rfl⟩, h.2.2.2.2.2.2⟩
theorem aMakeFunc_ex {fn : Fn} {fs cs : Array Operand} (h : aMakeFunc s fn fs cs K) : ∃ r, aMakeFunc s fn fs cs (fun r' s' => r' = r ∧ s' = s) ∧ K r s := by
  unfold aMakeFunc at h ⊢
  (repeat' split at h)
  all_goals first | exact h.elim | exact h.2.elim | exact h.2.2.elim | exact h.2.2.2.elim | exact ⟨_, ⟨rfl, rfl⟩, h⟩ | exact ⟨_, ⟨h.1, rfl, rfl⟩, h.2⟩ | exact ⟨_, ⟨h.1, h.2.1, rfl, rfl⟩, h.2.2⟩ | exact ⟨_, ⟨h.1, h.2.1, h.2.2.1, rfl, rfl⟩, h.2.2.2⟩ | exact ⟨_, ⟨h.1, h.2.1, h.2.2.1, h.2.2.2.1, rfl, rfl⟩, h.2.2.2.2⟩ | exact ⟨_, ⟨h.1, h.2.1, h.2.2.1, h.2.2.2.1, h.2.2.2.2.1, rfl, rfl⟩, h.2.2.2.2.2⟩ | exact ⟨_, ⟨h.1, h.2.1, h.2.2.1, h.2.2.2.1, h.2.2.2.2.1, h.2.2.2.2.2.1, rfl, rfl⟩, h.2.2.2.2.2.2⟩
theorem aSlice_ex {t : TypeId} {y : Operand} {lo hi mx : Option Operand} (h : aSlice P s t y lo hi mx K) : ∃ r, aSlice P s t y lo hi mx (fun r' s' => r' = r ∧ s' = s) ∧ K r s := by
  unfold aSlice at h ⊢
  (repeat' split at h)
  all_goals first
    | exact h.elim
    | (obtain ⟨h1, h2, h3, h4, h5, h6, h7⟩ := h
       rcases Int.lt_or_eq_of_le h3 with h8 | h8
       · exact ⟨_, ⟨h1, h2, h3, h4, h5, fun _ => ⟨rfl, rfl⟩, fun e => by omega⟩, h6 h8⟩
       · exact ⟨_, ⟨h1, h2, h3, h4, h5, fun e => by omega, fun _ => ⟨rfl, rfl⟩⟩, h7 h8⟩)
    | exact ⟨_, ⟨rfl, rfl⟩, h⟩ | exact ⟨_, ⟨h.1, rfl, rfl⟩, h.2⟩ | exact ⟨_, ⟨h.1, h.2.1, rfl, rfl⟩, h.2.2⟩ | exact ⟨_, ⟨h.1, h.2.1, h.2.2.1, rfl, rfl⟩, h.2.2.2⟩ | exact ⟨_, ⟨h.1, h.2.1, h.2.2.1, h.2.2.2.1, rfl, rfl⟩, h.2.2.2.2⟩ | exact ⟨_, ⟨h.1, h.2.1, h.2.2.1, h.2.2.2.1, h.2.2.2.2.1, rfl, rfl⟩, h.2.2.2.2.2⟩ | exact ⟨_, ⟨h.1, h.2.1, h.2.2.1, h.2.2.2.1, h.2.2.2.2.1, h.2.2.2.2.2.1, rfl, rfl⟩, h.2.2.2.2.2.2⟩ | exact ⟨_, ⟨h.1, h.2.1, h.2.2.1, h.2.2.2.1, h.2.2.2.2.1, h.2.2.2.2.2.1, h.2.2.2.2.2.2.1, rfl, rfl⟩, h.2.2.2.2.2.2.2⟩
theorem aFieldAddr_ex {t : TypeId} {y : Operand} {i : Nat} (h : aFieldAddr P s t y i K) : ∃ r, aFieldAddr P s t y i (fun r' s' => r' = r ∧ s' = s) ∧ K r s := by
  unfold aFieldAddr at h ⊢
  (repeat' split at h)
  all_goals first | exact h.elim | exact h.2.elim | exact h.2.2.elim | exact h.2.2.2.elim | exact ⟨_, ⟨rfl, rfl⟩, h⟩ | exact ⟨_, ⟨h.1, rfl, rfl⟩, h.2⟩ | exact ⟨_, ⟨h.1, h.2.1, rfl, rfl⟩, h.2.2⟩ | exact ⟨_, ⟨h.1, h.2.1, h.2.2.1, rfl, rfl⟩, h.2.2.2⟩ | exact ⟨_, ⟨h.1, h.2.1, h.2.2.1, h.2.2.2.1, rfl, rfl⟩, h.2.2.2.2⟩ | exact ⟨_, ⟨h.1, h.2.1, h.2.2.1, h.2.2.2.1, h.2.2.2.2.1, rfl, rfl⟩, h.2.2.2.2.2⟩ | exact ⟨_, ⟨h.1, h.2.1, h.2.2.1, h.2.2.2.1, h.2.2.2.2.1, h.2.2.2.2.2.1, rfl, rfl⟩, h.2.2.2.2.2.2⟩
theorem aField_ex {t : TypeId} {y : Operand} {i : Nat} (h : aField P s t y i K) : ∃ r, aField P s t y i (fun r' s' => r' = r ∧ s' = s) ∧ K r s := by
  unfold aField at h ⊢
  (repeat' split at h) <;> first | exact h.elim | exact aPart_ex h
theorem aIndexAddr_ex {t : TypeId} {y z : Operand} (h : aIndexAddr P s t y z K) : ∃ r, aIndexAddr P s t y z (fun r' s' => r' = r ∧ s' = s) ∧ K r s := by
  unfold aIndexAddr at h ⊢
  (repeat' split at h)
  all_goals first | exact h.elim | exact h.2.elim | exact h.2.2.elim | exact h.2.2.2.elim | exact ⟨_, ⟨rfl, rfl⟩, h⟩ | exact ⟨_, ⟨h.1, rfl, rfl⟩, h.2⟩ | exact ⟨_, ⟨h.1, h.2.1, rfl, rfl⟩, h.2.2⟩ | exact ⟨_, ⟨h.1, h.2.1, h.2.2.1, rfl, rfl⟩, h.2.2.2⟩ | exact ⟨_, ⟨h.1, h.2.1, h.2.2.1, h.2.2.2.1, rfl, rfl⟩, h.2.2.2.2⟩ | exact ⟨_, ⟨h.1, h.2.1, h.2.2.1, h.2.2.2.1, h.2.2.2.2.1, rfl, rfl⟩, h.2.2.2.2.2⟩ | exact ⟨_, ⟨h.1, h.2.1, h.2.2.1, h.2.2.2.1, h.2.2.2.2.1, h.2.2.2.2.2.1, rfl, rfl⟩, h.2.2.2.2.2.2⟩
theorem aIndex_ex {t : TypeId} {y z : Operand} (h : aIndex P s t y z K) : ∃ r, aIndex P s t y z (fun r' s' => r' = r ∧ s' = s) ∧ K r s := by
  unfold aIndex at h ⊢
  (repeat' split at h)
  all_goals first | exact h.elim | exact h.2.2.elim | exact ⟨_, ⟨rfl, rfl⟩, h⟩ | exact ⟨_, ⟨h.1, rfl, rfl⟩, h.2⟩ | exact ⟨_, ⟨h.1, h.2.1, rfl, rfl⟩, h.2.2⟩ | exact ⟨_, ⟨h.1, h.2.1, h.2.2.1, rfl, rfl⟩, h.2.2.2⟩ | (obtain ⟨h1, h2, h3⟩ := h; obtain ⟨r, h4, h5⟩ := aPart_ex h3; exact ⟨r, ⟨h1, h2, h4⟩, h5⟩)
theorem aExtract_ex {y : Operand} {i : Nat} (h : aExtract s y i K) : ∃ r, aExtract s y i (fun r' s' => r' = r ∧ s' = s) ∧ K r s := by
  unfold aExtract at h ⊢
  (repeat' split at h)
  all_goals first | exact h.elim | exact h.2.elim | exact h.2.2.elim | exact h.2.2.2.elim | exact ⟨_, ⟨rfl, rfl⟩, h⟩ | exact ⟨_, ⟨h.1, rfl, rfl⟩, h.2⟩ | exact ⟨_, ⟨h.1, h.2.1, rfl, rfl⟩, h.2.2⟩ | exact ⟨_, ⟨h.1, h.2.1, h.2.2.1, rfl, rfl⟩, h.2.2.2⟩ | exact ⟨_, ⟨h.1, h.2.1, h.2.2.1, h.2.2.2.1, rfl, rfl⟩, h.2.2.2.2⟩ | exact ⟨_, ⟨h.1, h.2.1, h.2.2.1, h.2.2.2.1, h.2.2.2.2.1, rfl, rfl⟩, h.2.2.2.2.2⟩ | exact ⟨_, ⟨h.1, h.2.1, h.2.2.1, h.2.2.2.1, h.2.2.2.2.1, h.2.2.2.2.2.1, rfl, rfl⟩, h.2.2.2.2.2.2⟩
theorem aLen_ex {t : TypeId} {y : Operand} (h : aLen P s t y K) : ∃ r, aLen P s t y (fun r' s' => r' = r ∧ s' = s) ∧ K r s := by
  unfold aLen at h ⊢
  (repeat' split at h)
  all_goals first | exact h.elim | exact h.2.elim | exact h.2.2.elim | exact h.2.2.2.elim | exact ⟨_, ⟨rfl, rfl⟩, h⟩ | exact ⟨_, ⟨h.1, rfl, rfl⟩, h.2⟩ | exact ⟨_, ⟨h.1, h.2.1, rfl, rfl⟩, h.2.2⟩ | exact ⟨_, ⟨h.1, h.2.1, h.2.2.1, rfl, rfl⟩, h.2.2.2⟩ | exact ⟨_, ⟨h.1, h.2.1, h.2.2.1, h.2.2.2.1, rfl, rfl⟩, h.2.2.2.2⟩ | exact ⟨_, ⟨h.1, h.2.1, h.2.2.1, h.2.2.2.1, h.2.2.2.2.1, rfl, rfl⟩, h.2.2.2.2.2⟩ | exact ⟨_, ⟨h.1, h.2.1, h.2.2.1, h.2.2.2.1, h.2.2.2.2.1, h.2.2.2.2.2.1, rfl, rfl⟩, h.2.2.2.2.2.2⟩
theorem aMin_ex {mn : Bool} {y z : Operand} (h : aMin s mn y z K) : ∃ r, aMin s mn y z (fun r' s' => r' = r ∧ s' = s) ∧ K r s := by
  unfold aMin at h ⊢
  split at h <;> first | exact ⟨_, ⟨rfl, rfl⟩, h⟩ | exact h.elim
end ex

end Go.Av
