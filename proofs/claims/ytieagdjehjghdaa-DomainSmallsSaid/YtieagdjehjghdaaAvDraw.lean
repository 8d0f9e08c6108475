/-
  A region whose order is open, over abstract states: the operations that write nothing are taken first, in the order of the text; what is left is forced. Over any program. No toy.
-/
import Derived.Test.YtieagdjehjghdaaAvDrawA
set_option linter.all false
namespace Go.Av
open Go.RowKit

theorem aAlloc_mono {P : Program} {s : St} {K K' : A → St → Prop} (hq : ∀ r s, K r s → K' r s) {e : TypeId} (h : aAlloc P s e K) : aAlloc P s e K' := by
  unfold aAlloc at h ⊢
  (repeat' (first | exact hq _ _ h | exact h.elim | split at h | (obtain ⟨h0, h⟩ := h; refine ⟨h0, ?_⟩)))
theorem aBox_mono {s : St} {K K' : A → St → Prop} (hq : ∀ r s, K r s → K' r s) {y : Operand} (h : aBox s y K) : aBox s y K' := by
  unfold aBox at h ⊢
  (repeat' (first | exact hq _ _ h | exact h.elim | split at h | (obtain ⟨h0, h⟩ := h; refine ⟨h0, ?_⟩)))
theorem aStore_mono {P : Program} {s : St} {K K' : A → St → Prop} (hq : ∀ r s, K r s → K' r s) {t : TypeId} {y z : Operand} (h : aStore P s t y z K) : aStore P s t y z K' := by
  unfold aStore at h ⊢
  (repeat' (first | exact hq _ _ h | exact h.elim | split at h | (obtain ⟨h0, h⟩ := h; refine ⟨h0, ?_⟩)))
theorem aMake_mono {P : Program} {s : St} {K K' : A → St → Prop} (hq : ∀ r s, K r s → K' r s) {t : TypeId} {y z : Operand} (h : aMake P s t y z K) : aMake P s t y z K' := by
  unfold aMake at h ⊢
  (repeat' (first | exact hq _ _ h | exact h.elim | split at h | (obtain ⟨h0, h⟩ := h; refine ⟨h0, ?_⟩)))

section level
variable {P : Program} {s s1 : St} {K K1 : A → St → Prop}

theorem adop_ex {o : Op} (hp : pureOp o = true) (h : adop P s o K) : ∃ r, adop P s o (fun r' s' => r' = r ∧ s' = s) ∧ K r s := by
  cases o <;> simp only [pureOp, Bool.false_eq_true] at hp
  case move x => exact ⟨_, ⟨rfl, rfl⟩, h⟩
  case assign x => exact ⟨_, ⟨rfl, rfl⟩, h⟩
  case pick c p q =>
    simp only [adop, aop] at h ⊢
    split at h
    · rename_i b hb
      cases b with
      | true => exact ⟨_, ⟨fun _ => ⟨rfl, trivial⟩, fun e => by cases e⟩, h.1 rfl⟩
      | false => exact ⟨_, ⟨fun e => (by cases e), fun _ => ⟨rfl, trivial⟩⟩, h.2 rfl⟩
    · exact h.elim
  case build t ps => exact aBuild_ex h
  case buildSlice t n ps => exact aBuildSlice_ex h
  case load t x => exact aLoad_ex h
  case binOp op t x y t2 => exact aBin_ex h
  case unOp op t x => exact aUn_ex h
  case convert t1 t2 x => exact aConvert_ex h
  case makeFunc fn f c => exact aMakeFunc_ex h
  case slice t x lo hi mx => exact aSlice_ex h
  case fieldAddr t x i => exact aFieldAddr_ex h
  case field t x i => exact aField_ex h
  case indexAddr t x ix => exact aIndexAddr_ex h
  case index t x ix => exact aIndex_ex h
  case extract x i => exact aExtract_ex h
  case call c =>
    obtain ⟨callee, args, tys⟩ := c
    cases callee with
    | value f =>
      simp only [adop] at h ⊢
      (repeat' split at h) <;> first | exact h.elim | (obtain ⟨r, hr, hk⟩ := h; exact ⟨r, ⟨r, hr, rfl, trivial⟩, hk⟩)
    | invoke r m => simp at hp
    | builtin b =>
      cases b <;> simp at hp
      all_goals
        unfold adop aop at h ⊢
        simp only [] at h ⊢
        split at h
      all_goals first | contradiction | exact h.elim | exact aLen_ex h | exact aMin_ex h

theorem refIds_congr {l : List Operand} (h : ∀ x ∈ l, aeval s1 x = aeval s x) : refIds s1 l = refIds s l := by
  induction l with
  | nil => rfl
  | cons o l ih => simp only [refIds, h o (List.mem_cons_self ..), ih fun x hx => h x (List.mem_cons_of_mem _ hx)]

theorem adop_congr {o : Op} (hp : pureOp o = true) (hx : ∀ x ∈ o.operands.toList, aeval s1 x = aeval s x) (hh : readsH o = true → s1.h = s.h) (hK : ∀ r, K1 r s1 = K r s) : adop P s1 o K1 = adop P s o K := by
  cases o <;> simp only [pureOp, Bool.false_eq_true] at hp
  case move x => simp only [adop, aop, hx x (by simp [Op.operands]), hK]
  case assign x => simp only [adop, aop, hx x (by simp [Op.operands]), hK]
  case pick c p q => simp only [adop, aop, hx c (by simp [Op.operands]), hx p (by simp [Op.operands]), hx q (by simp [Op.operands]), hK]
  case build t ps =>
    refine aBuild_congr hK (List.map_congr_left fun p hp => ?_)
    rw [hx p.2 (by simp only [Op.operands]; exact List.mem_map.2 ⟨p, hp, rfl⟩)]
  case buildSlice t n ps =>
    refine aBuildSlice_congr hK ?_
    have : ∀ (l : List (Nat × Operand)), (∀ p ∈ l, aeval s1 p.2 = aeval s p.2) → l.mapM (fun p => lowCells (aeval s1 p.2)) = l.mapM (fun p => lowCells (aeval s p.2)) := by
      intro l
      induction l with
      | nil => intro _; rfl
      | cons p l ih => intro h; rw [List.mapM_cons, List.mapM_cons, h p (List.mem_cons_self ..), ih fun q hq => h q (List.mem_cons_of_mem _ hq)]
    exact this _ fun p hp => hx p.2 (by simp only [Op.operands]; exact List.mem_map.2 ⟨p, hp, rfl⟩)
  case load t x => exact aLoad_congr hK (hx x (by simp [Op.operands])) (hh rfl)
  case binOp op t x y t2 => exact aBin_congr hK (hx x (by simp [Op.operands])) (hx y (by simp [Op.operands]))
  case unOp op t x => exact aUn_congr hK (hx x (by simp [Op.operands]))
  case convert t1 t2 x => exact aConvert_congr hK (hx x (by simp [Op.operands]))
  case makeFunc fn f c => exact aMakeFunc_congr hK (refIds_congr fun x hxx => hx x (by simp only [Op.operands, Array.toList_append, List.mem_append]; exact .inr hxx))
  case slice t x lo hi mx =>
    have ob : ∀ (o : Option Operand), (∀ y, o = some y → aeval s1 y = aeval s y) → ∀ d, obd s1 d o = obd s d o := fun o ho d => by
      cases o with
      | none => rfl
      | some y => simp only [obd, ho y rfl]
    exact aSlice_congr hK (hx x (by simp [Op.operands])) (ob lo fun y hy => hx y (by subst hy; simp [Op.operands])) (ob hi fun y hy => hx y (by subst hy; simp [Op.operands])) (ob mx fun y hy => hx y (by subst hy; simp [Op.operands]))
  case fieldAddr t x i => exact aFieldAddr_congr hK (hx x (by simp [Op.operands]))
  case field t x i => exact aField_congr hK (hx x (by simp [Op.operands]))
  case indexAddr t x ix => exact aIndexAddr_congr hK (hx x (by simp [Op.operands])) (hx ix (by simp [Op.operands]))
  case index t x ix => exact aIndex_congr hK (hx x (by simp [Op.operands])) (hx ix (by simp [Op.operands]))
  case extract x i => exact aExtract_congr hK (hx x (by simp [Op.operands]))
  case call c =>
    obtain ⟨callee, args, tys⟩ := c
    cases callee with
    | value f =>
      have hf : aCallee s1 f = aCallee s f := by unfold aCallee; rw [hx f (by simp [Op.operands, Call.operands])]
      have ha : args.toList.map (aeval s1) = args.toList.map (aeval s) := List.map_congr_left fun y hy => hx y (by simp only [Op.operands, Call.operands, Array.toList_append, List.mem_append]; exact .inr hy)
      simp only [adop, hf, ha, hK]
    | invoke r m => simp at hp
    | builtin b =>
      have hy : ∀ y ∈ args.toList, aeval s1 y = aeval s y := fun y hy => hx y (by simp only [Op.operands, Call.operands, Array.toList_append, List.mem_append]; exact .inr hy)
      cases b <;> simp at hp
      all_goals
        simp only [adop, aop]
        split
      all_goals first
        | contradiction
        | rfl
        | (rename_i y z _ _ ha; exact aMin_congr hK (hy y (by rw [ha]; simp)) (hy z (by rw [ha]; simp)))
        | (rename_i y z _ ha; exact aMin_congr hK (hy y (by rw [ha]; simp)) (hy z (by rw [ha]; simp)))
        | (rename_i y t _ ha _; exact aLen_congr hK (hy y (by rw [ha]; simp)))

theorem adop_mono {o : Op} (hq : ∀ r s, K r s → K1 r s) (h : adop P s o K) : adop P s o K1 := by
  unfold adop at h ⊢
  split at h
  · split at h
    · split at h
      · split at h
        · obtain ⟨r, hr, hk⟩ := h; exact ⟨r, hr, hq _ _ hk⟩
        · exact h.elim
      · exact h.elim
    · exact aop_mono hq h
  · exact aop_mono hq h

theorem adop_frame {o : Op} (h : adop P s o K) : adop P s o fun r s' => K r s' ∧ s'.t = s.t ∧ (keepsH o = true → s'.h = s.h) := by
  have same : ∀ {r : A} {s' : St}, K r s' ∧ s' = s → K r s' ∧ s'.t = s.t ∧ (keepsH o = true → s'.h = s.h) := fun ⟨h1, h2⟩ => by subst h2; exact ⟨h1, rfl, fun _ => rfl⟩
  by_cases hp : pureOp o = true
  · obtain ⟨r, h1, h2⟩ := adop_ex hp h
    exact adop_mono (fun r' s' ⟨e1, e2⟩ => same ⟨e1 ▸ e2 ▸ h2, e2⟩) h1
  · cases o <;> simp only [pureOp, not_true_eq_false, Bool.false_eq_true, not_false_eq_true] at hp
    case alloc e => unfold adop aop at h ⊢; exact aAlloc_mono (fun r s' (h12 : _ ∧ _) => ⟨h12.1, h12.2, fun e => by cases e⟩) (aAlloc_frame h)
    case box e x => unfold adop aop at h ⊢; exact aBox_mono (fun r s' (h12 : _ ∧ _) => ⟨h12.1, h12.2, fun e => by cases e⟩) (aBox_frame h)
    case store t x y => unfold adop aop at h ⊢; exact aStore_mono (fun r s' (h12 : _ ∧ _) => ⟨h12.1, h12.2, fun e => by cases e⟩) (aStore_frame h)
    case makeSlice t l c => unfold adop aop at h ⊢; exact aMake_mono (fun r s' (h12 : _ ∧ _) => ⟨h12.1, h12.2, fun e => by cases e⟩) (aMake_frame h)
    case range t y => unfold adop aop at h ⊢; exact aRange_mono (fun r s' (h12 : _ ∧ _) => ⟨h12.1, h12.2.1, fun _ => h12.2.2⟩) (aRange_frame h)
    case next y b => unfold adop aop at h ⊢; exact aNext_mono (fun r s' (h12 : _ ∧ _) => ⟨h12.1, h12.2.1, fun _ => h12.2.2⟩) (aNext_frame h)
    case call c =>
      obtain ⟨callee, args, tys⟩ := c
      cases callee with
      | value f => simp at hp
      | invoke r m => exact h.elim
      | builtin b =>
        unfold adop aop at h ⊢
        simp only [] at h ⊢
        split at h
        · exact absurd rfl hp
        · exact ⟨h.1, aAppend_mono (fun r s' ⟨h1, h2, h3⟩ => ⟨h1, h2, fun _ => h3⟩) (aAppend_frame h.2)⟩
        · exact absurd rfl hp
        · exact absurd rfl hp
        · exact h.elim
    all_goals exact h.elim

theorem adop_set {o : Op} {d : Nat} {q : A} (hx : ∀ x ∈ o.operands.toList, aeval (s.set d q) x = aeval s x) : adop P (s.set d q) o K = adop P s o fun r s' => K r (s'.set d q) := by
  by_cases hp : pureOp o = true
  · exact adop_congr hp hx (fun _ => rfl) fun r => rfl
  · cases o <;> simp only [pureOp, not_true_eq_false, Bool.false_eq_true, not_false_eq_true] at hp
    case alloc e => exact aAlloc_set
    case box e x => exact aBox_set (hx x (by simp [Op.operands]))
    case store t x y => exact aStore_set (hx x (by simp [Op.operands])) (hx y (by simp [Op.operands]))
    case makeSlice t x y => exact aMake_set (hx x (by simp [Op.operands])) (hx y (by simp [Op.operands]))
    case range t y => exact aRange_set (hx y (by simp [Op.operands]))
    case next y b => exact aNext_set (hx y (by simp [Op.operands]))
    case call c =>
      obtain ⟨callee, args, tys⟩ := c
      cases callee with
      | value f => simp at hp
      | invoke r m => rfl
      | builtin b =>
        have hy : ∀ y ∈ args.toList, aeval (s.set d q) y = aeval s y := fun y hy => hx y (by simp only [Op.operands, Call.operands, Array.toList_append, List.mem_append]; exact .inr hy)
        unfold adop aop
        simp only []
        split
        · exact absurd rfl hp
        · rename_i y z _ _ ha _; rw [aAppend_set (hy y (by rw [ha]; simp)) (hy z (by rw [ha]; simp))]
        · exact absurd rfl hp
        · exact absurd rfl hp
        · rfl
    all_goals rfl

end level

/-- Is the operation wanted, by its guard? -/
def awanted (ops : List Oper) (o : Oper) (s : St) : Option Bool :=
  match o.guard with
  | none => some true
  | some (j, want) => match (ops[j]?).bind (·.dst) with
    | some g => (match s.t g with | .one (.d (.v (.bool b))) => some (b == want) | .tup [] => some false | _ => none)
    | none => none

theorem awanted_sound {P : Program} {x : Ent} {s : St} {a : Act} {w : World} (h : RepSt P x s a w) {ops : Array Oper} {o : Oper} {b : Bool} (hw : awanted ops.toList o s = some b) : Region.wanted o (yielded ops a.tmps) = b := by
  unfold awanted at hw
  split at hw
  · rename_i hg; simp only [Option.some.injEq] at hw; subst hw; simp [Region.wanted, hg]
  · rename_i j want hg
    split at hw
    · rename_i g hgd
      have hgd' : (ops[j]?).bind (·.dst) = some g := by simpa using hgd
      rw [wanted_eq (a := a) hg hgd']
      obtain ⟨_, _, E, _, h4⟩ := h
      have h5 := h4 g
      split at hw
      · rename_i c hc
        simp only [Option.some.injEq] at hw
        subst hw
        rw [hc] at h5
        have hv := v_inv h5
        rw [Array.getD_eq_getD_getElem?] at hv
        cases hh : a.tmps[g]? with
        | none => rw [hh] at hv; simp [undef] at hv
        | some u => rw [hh] at hv; simp at hv; rw [hv]
      · rename_i hc
        simp only [Option.some.injEq] at hw
        subst hw
        rw [hc] at h5
        have hv : a.tmps.getD g undef = undef := by
          generalize a.tmps.getD g undef = va at h5
          cases h5 with
          | tup _ vs hl _ => have : vs = [] := List.eq_nil_of_length_eq_zero hl; subst this; rfl
        split
        · rename_i b hb'
          rw [Array.getD_eq_getD_getElem?, hb'] at hv
          simp [undef] at hv
        · rfl
      · cases hw
    · cases hw

def qA (P : Program) (ops : Array Oper) (i : Nat) (K : St → Prop) (s : St) : Prop :=
  match ops[i]? with
  | none => False
  | some o => match awanted ops.toList o s with
    | some true => adop P s o.op fun r s' => K (s'.put o.dst r)
    | some false => K (s.put o.dst (.tup []))
    | none => False

def wpAnyA (P : Program) (md : Region.Mode) (ops : Array Oper) (K : St → Prop) : Nat → Array Bool → St → Prop
  | 0, listed, s => Region.ready md ops listed = [] ∧ K s
  | fuel + 1, listed, s => (Region.ready md ops listed = [] → K s) ∧ ∀ i ∈ Region.ready md ops listed, qA P ops i (wpAnyA P md ops K fuel (listed.setIfInBounds i true)) s

theorem wpAnyA_sound {P : Program} {md : Region.Mode} {ops : Array Oper} {K : St → Prop} {x : Ent} (hx : x.ok) {Q : Exit → Act → World → Prop} {m : Nat} (hm : ∀ o ∈ ops, ∀ d, o.dst = some d → d < m)
    (hQ : ∀ s a w, RepSt P x s a w → K s → s.m = m → Q .normal a w) : ∀ (fuel : Nat) (listed : Array Bool) (s : St) (a : Act) (w : World), RepSt P x s a w → s.m = m → wpAnyA P md ops K fuel listed s → wpAny P md ops Q fuel listed a w
  | 0, _, s, a, w, hr, hs, h => ⟨h.1, hQ s a w hr h.2 hs⟩
  | fuel + 1, listed, s, a, w, hr, hs, h => by
    refine ⟨fun h0 => hQ s a w hr (h.1 h0) hs, fun i hi => ?_⟩
    have hq := h.2 i hi
    unfold qA at hq
    unfold wpOp
    split at hq
    · exact hq.elim
    · rename_i o ho
      simp only [ho]
      have hmo := hm o (Array.mem_of_getElem? ho)
      split at hq
      · rename_i hw
        rw [if_pos (awanted_sound hr hw)]
        refine .inl (aop_sound hx hr (aop_of_adop hq) fun r s' v w' hr' hk hm' => ?_)
        exact wpAnyA_sound hx hm hQ fuel _ _ _ _ (hr'.put o.dst fun d hd => by rw [hm', hs]; exact hmo d hd) (by cases hdd : o.dst <;> simp [hm', hs]) hk
      · rename_i hw
        rw [if_neg (by rw [awanted_sound hr hw]; simp)]
        have hsv : RepSV P x s a w (.tup []) undef := hr.sv fun _ _ _ => .tup [] [] rfl (by simp)
        exact wpAnyA_sound hx hm hQ fuel _ _ _ _ (hsv.put o.dst fun d hd => by rw [hs]; exact hmo d hd) (by cases hdd : o.dst <;> simp [hs]) hq
      · exact hq.elim

/-- In this state the operation yields r and changes nothing else. -/
def YP (P : Program) (ops : Array Oper) (o : Oper) (r : A) (s : St) : Prop :=
  (awanted ops.toList o s = some true ∧ adop P s o.op fun r' s' => r' = r ∧ s' = s) ∨ (awanted ops.toList o s = some false ∧ r = .tup [])

theorem YP.of_qA {P : Program} {ops : Array Oper} {i : Nat} {o : Oper} {K : St → Prop} {s : St} (hi : ops[i]? = some o) (hp : pureOp o.op = true) (h : qA P ops i K s) : ∃ r, YP P ops o r s ∧ K (s.put o.dst r) := by
  unfold qA at h
  simp only [hi] at h
  split at h
  · rename_i hw
    obtain ⟨r, h1, h2⟩ := adop_ex hp h
    exact ⟨r, .inl ⟨hw, h1⟩, h2⟩
  · rename_i hw; exact ⟨_, .inr ⟨hw, rfl⟩, h⟩
  · exact h.elim

theorem YP.qA {P : Program} {ops : Array Oper} {i : Nat} {o : Oper} {K : St → Prop} {s : St} {r : A} (hi : ops[i]? = some o) (h : YP P ops o r s) (hK : K (s.put o.dst r)) : qA P ops i K s := by
  unfold Av.qA
  simp only [hi]
  rcases h with ⟨hw, h⟩ | ⟨hw, rfl⟩
  · simp only [hw]; exact adop_mono (fun r' s' ⟨e1, e2⟩ => by rw [e1, e2]; exact hK) h
  · simp only [hw]; exact hK

theorem qA_mono {P : Program} {ops : Array Oper} {i : Nat} {K K' : St → Prop} {s : St} (hq : ∀ s, K s → K' s) (h : qA P ops i K s) : qA P ops i K' s := by
  unfold qA at h ⊢
  split at h
  · exact h.elim
  · rename_i o ho
    try simp only []
    split at h
    · rename_i hw; exact adop_mono (fun r s' hk => hq _ hk) h
    · rename_i hw; exact hq _ h
    · exact h.elim

theorem aeval_put {ops : Array Oper} {o : Oper} {s : St} {dst : Option Nat} {r : A} (h : ∀ d, dst = some d → d ∉ o.looksAt ops) : ∀ x ∈ o.op.operands.toList, aeval (s.put dst r) x = aeval s x := by
  intro x hx
  cases dst with
  | none => rfl
  | some d =>
    cases x with
    | tmp t =>
      have : t ≠ d := fun e => h d rfl (by
        subst e
        exact List.mem_append_left _ (List.mem_filterMap.2 ⟨.tmp t, hx, rfl⟩))
      simp [aeval, upd, this]
    | _ => rfl

theorem awanted_put {ops : Array Oper} {o : Oper} {s s' : St} (ht : s'.t = s.t) {dst : Option Nat} {r : A} (h : ∀ d, dst = some d → d ∉ o.looksAt ops) : awanted ops.toList o (s'.put dst r) = awanted ops.toList o s := by
  unfold awanted
  cases hg : o.guard with
  | none => rfl
  | some jw =>
    obtain ⟨j, want⟩ := jw
    simp only []
    cases hgd : (ops.toList[j]?).bind (·.dst) with
    | none => rfl
    | some g =>
      simp only []
      have : (s'.put dst r).t g = s.t g := by
        cases dst with
        | none => rw [St.put_none, ht]
        | some d =>
          have hne : g ≠ d := fun e => h d rfl (by
            subst e
            refine List.mem_append_right _ ?_
            simp only [hg]
            have : (ops[j]?).bind (·.dst) = some g := by simpa using hgd
            simp [this])
          simp [upd, hne, ht]
      rw [this]

theorem put_comm (s : St) {d e : Option Nat} (r q : A) (h : ∀ i, d = some i → e ≠ some i) : (s.put d r).put e q = (s.put e q).put d r := by
  cases d with
  | none => rfl
  | some i =>
    cases e with
    | none => rfl
    | some j =>
      have hne : i ≠ j := fun e => h i rfl (by rw [e])
      simp only [St.put_some, St.set]
      congr 1
      funext k
      by_cases h1 : k = i <;> by_cases h2 : k = j <;> simp_all [upd]

theorem YP.put {P : Program} {ops : Array Oper} {o : Oper} {r : A} {s s' : St} (hp : pureOp o.op = true) (h : YP P ops o r s) (ht : s'.t = s.t) (hh : readsH o.op = true → s'.h = s.h) {dst : Option Nat} {q : A}
    (hd : ∀ d, dst = some d → d ∉ o.looksAt ops) : YP P ops o r (s'.put dst q) := by
  unfold YP at *
  rw [awanted_put ht hd]
  refine h.imp (fun ⟨h1, h2⟩ => ⟨h1, ?_⟩) _root_.id
  have hx : ∀ x ∈ o.op.operands.toList, aeval (s'.put dst q) x = aeval s x := fun x hx => by
    rw [aeval_put hd x hx]
    cases x <;> simp [aeval, ht]
  rw [adop_congr (s := s) hp hx (fun e => by
    have : (s'.put dst q).h = s'.h := by cases dst <;> rfl
    rw [this]; exact hh e) (K := fun r' s' => r' = r ∧ s' = s) (fun r' => by simp)]
  exact h2

/-- One operation apart from 'oi' makes no difference to it, nor it to that one. -/
theorem qA_put {P : Program} {ops : Array Oper} {j : Nat} {oi oj : Oper} {r : A} (hj : ops[j]? = some oj) (hap : oi.apart ops oj = true) (hp : pureOp oi.op = true) (hrk : readsH oi.op = true → keepsH oj.op = true)
    {K : St → Prop} {s : St} (hy : YP P ops oi r s) (h : qA P ops j K (s.put oi.dst r)) : qA P ops j (fun s' => YP P ops oi r s' ∧ K (s'.put oi.dst r)) s := by
  obtain ⟨h1, h2, h3⟩ := Oper.apart_spec hap
  unfold qA at *
  simp only [hj] at *
  rw [awanted_put (s := s) rfl h1] at h
  split at h
  · rename_i hw
    try simp only []
    have hK : adop P s oj.op fun q s' => K ((s'.put oi.dst r).put oj.dst q) := by
      cases hd : oi.dst with
      | none => rw [hd] at h; exact h
      | some d =>
        rw [hd] at h
        rw [St.put_some, adop_set (by have := aeval_put (s := s) (r := r) (o := oj) (ops := ops) h1; rw [hd] at this; exact this)] at h
        exact h
    refine adop_mono ?_ (adop_frame hK)
    rintro q s' ⟨hk, ht, hh⟩
    exact ⟨hy.put hp ht (fun e => hh (hrk e)) h3, by rw [← put_comm s' r q h2]; exact hk⟩
  · rename_i hw
    try simp only []
    exact ⟨hy.put hp rfl (fun _ => rfl) h3, by rw [← put_comm s r _ h2]; exact h⟩
  · exact h.elim

/-- An operation that writes nothing may be taken first, if every other one either waits for it or is apart from it. -/
theorem wpAnyA_first {P : Program} {md : Region.Mode} {ops : Array Oper} {K : St → Prop} {i : Nat} {oi : Oper} {r : A} (hi : ops[i]? = some oi) (hp : pureOp oi.op = true) :
    ∀ (fuel : Nat) (listed : Array Bool) (s : St),
      (∀ (j : Nat) (oj : Oper), ops[j]? = some oj → j ≠ i → listed.getD j true = false → (∀ e ∈ oj.after, Region.binds md e = true → e.on ≠ i) → oi.apart ops oj = true ∧ (readsH oi.op = true → keepsH oj.op = true)) →
      i ∈ Region.ready md ops listed → YP P ops oi r s → wpAnyA P md ops K fuel (listed.setIfInBounds i true) (s.put oi.dst r) → wpAnyA P md ops K (fuel + 1) listed s := by
  intro fuel
  induction fuel with
  | zero =>
    intro listed s _ hr hy H
    refine ⟨fun h => (by rw [h] at hr; cases hr), fun j hj => ?_⟩
    by_cases hji : j = i
    · subst hji; exact hy.qA hi H
    · have := ready_mono hj hji
      rw [H.1] at this
      cases this
  | succ fuel ih =>
    intro listed s hfree hr hy H
    refine ⟨fun h => (by rw [h] at hr; cases hr), fun j hj => ?_⟩
    by_cases hji : j = i
    · subst hji; exact hy.qA hi H
    · have h1 := H.2 j (ready_mono hj hji)
      obtain ⟨hjun, oj, hoj, hall⟩ := mem_ready.1 hj
      have hnot : ∀ e ∈ oj.after, Region.binds md e = true → e.on ≠ i := fun e he hb heq => by
        have h1 := hall e he hb
        have h0 := (mem_ready.1 hr).1
        rw [heq] at h1
        rcases Nat.lt_or_ge i listed.size with h' | h'
        · simp [h'] at h0 h1; rw [h0] at h1; cases h1
        · simp [Array.getElem?_eq_none h'] at h1
      obtain ⟨hap, hrk⟩ := hfree j oj hoj hji hjun hnot
      have h2 := qA_put hoj hap hp hrk hy h1
      have hfree' : ∀ (k : Nat) (ok : Oper), ops[k]? = some ok → k ≠ i → (listed.setIfInBounds j true).getD k true = false →
          (∀ e ∈ ok.after, Region.binds md e = true → e.on ≠ i) → oi.apart ops ok = true ∧ (readsH oi.op = true → keepsH ok.op = true) := fun k ok hk hki hun hno => by
        refine hfree k ok hk hki ?_ hno
        by_cases hjk : j = k
        · subst hjk; exact hjun
        · rw [getD_set_ne true hjk] at hun; exact hun
      refine qA_mono (fun s' h3 => ih (listed.setIfInBounds j true) s' hfree' (ready_mono hr (Ne.symm hji)) h3.1 ?_) h2
      rw [Array.setIfInBounds_comm _ _ hji]
      exact h3.2

def freeA (md : Region.Mode) (ops : Array Oper) (listed : Array Bool) (i : Nat) : Bool :=
  match ops[i]? with
  | none => false
  | some oi => pureOp oi.op && (List.range ops.size).all fun j => j == i || listed.getD j true || match ops[j]? with
      | some oj => oj.after.any (fun e => Region.binds md e && e.on == i) || (oi.apart ops oj && (!readsH oi.op || keepsH oj.op))
      | none => true

/-- The order in which the region may be walked: the first list's operations are free to come first, the second list's are forced. -/
def ordT (ops : Array Oper) : List Nat → Array Bool → Bool
  | i :: tail, listed => (Region.ready .any ops listed == [i]) && ordT ops tail (listed.setIfInBounds i true)
  | [], listed => (Region.ready .any ops listed).isEmpty
def ordB (ops : Array Oper) : List Nat → List Nat → Array Bool → Bool
  | i :: order, tail, listed => (Region.ready .any ops listed).contains i && freeA .any ops listed i && ordB ops order tail (listed.setIfInBounds i true)
  | [], tail, listed => ordT ops tail listed

/-- The walk in that order. -/
def aord (P : Program) (all : List Oper) : List Nat → (St → Prop) → St → Prop
  | [], K, s => K s
  | i :: rest, K, s => match all[i]? with
    | none => False
    | some o => (match o.guard with
      | none => (match o.dst with
        | some d => adop P s o.op fun r s' => aord P all rest K (s'.set d r)
        | none => adop P s o.op fun _ s' => aord P all rest K s')
      | some (j, want) => (match o.dst, (all[j]?).bind (·.dst) with
        | some d, some g => (match s.t g with
          | .one (.d (.v (.bool b))) => (b = want → adop P (s.set g (.one (.d (.v (.bool want))))) o.op fun r s' => aord P all rest K (s'.set d r)) ∧
              (b = !want → aord P all rest K ((s.set g (.one (.d (.v (.bool (!want)))))).set d (.tup [])))
          | .tup [] => aord P all rest K (s.set d (.tup []))
          | _ => False)
        | _, _ => False))

theorem set_self (s : St) (g : Nat) (r : A) (h : s.t g = r) : s.set g r = s := by
  simp only [St.set]
  have : upd s.t g r = s.t := by
    funext k
    by_cases hk : k = g
    · subst hk; simp [h]
    · rw [upd_ne _ _ _ _ hk]
  rw [this]

theorem aord_qA {P : Program} {ops : Array Oper} {i : Nat} {rest : List Nat} {K : St → Prop} {s : St} (h : aord P ops.toList (i :: rest) K s) : qA P ops i (aord P ops.toList rest K) s := by
  unfold aord at h
  unfold qA
  rw [Array.getElem?_toList] at h
  split at h
  · exact h.elim
  · rename_i o ho
    try simp only []
    split at h
    · rename_i hg
      have hw : awanted ops.toList o s = some true := by simp [awanted, hg]
      simp only [hw]
      split at h
      · rename_i d hd; rw [hd]; exact h
      · rename_i hd; rw [hd]; exact h
    · rename_i j want hg
      split at h
      · rename_i d g hd hgd
        split at h
        · rename_i b hb
          have hw : awanted ops.toList o s = some (b == want) := by unfold awanted; rw [hg]; simp only []; rw [hgd]; simp only []; rw [hb]
          simp only [hw, hd]
          by_cases hbw : b = want
          · subst hbw
            have := h.1 rfl
            rw [set_self _ _ _ hb] at this
            simpa using this
          · have hbn : b = !want := by cases b <;> cases want <;> simp_all
            have := h.2 hbn
            rw [set_self s g _ (by rw [hb, hbn])] at this
            have hf : (b == want) = false := by simpa using hbw
            simpa [hf] using this
        · rename_i hb
          have hw : awanted ops.toList o s = some false := by unfold awanted; rw [hg]; simp only []; rw [hgd]; simp only []; rw [hb]
          simp only [hw, hd]
          exact h
        · exact h.elim
      · exact h.elim

theorem wpAnyA_ord {P : Program} {ops : Array Oper} {K : St → Prop} : ∀ (order tail : List Nat) (listed : Array Bool) (s : St), ordB ops order tail listed = true → aord P ops.toList (order ++ tail) K s → wpAnyA P .any ops K (order.length + tail.length) listed s
  | [], [], listed, s, hB, h => ⟨by simpa [ordB, ordT] using hB, h⟩
  | [], i :: tail, listed, s, hB, h => by
    simp only [ordB, ordT, Bool.and_eq_true, beq_iff_eq] at hB
    refine ⟨fun h0 => by rw [hB.1] at h0; simp at h0, fun j hj => ?_⟩
    rw [hB.1] at hj
    have hji : j = i := by simpa using hj
    subst hji
    refine qA_mono (fun s' h' => ?_) (aord_qA h)
    have := wpAnyA_ord [] tail _ s' hB.2 h'
    simpa using this
  | i :: order, tail, listed, s, hB, h => by
    simp only [ordB, Bool.and_eq_true] at hB
    obtain ⟨⟨hr, hf⟩, hB'⟩ := hB
    have hq := aord_qA (ops := ops) (i := i) (rest := order ++ tail) h
    unfold freeA at hf
    split at hf
    · cases hf
    · rename_i oi hi
      simp only [Bool.and_eq_true] at hf
      obtain ⟨hp, hf⟩ := hf
      obtain ⟨r, hy, hk⟩ := YP.of_qA hi hp hq
      have := wpAnyA_ord order tail _ _ hB' hk
      have e : (i :: order).length + tail.length = (order.length + tail.length) + 1 := by simp; omega
      rw [e]
      refine wpAnyA_first hi hp _ listed s (fun j oj hj hne hun hno => ?_) (by simpa using hr) hy this
      have h1 := (List.all_eq_true.1 hf) j (List.mem_range.2 (Array.getElem?_eq_some_iff.1 hj).1)
      simp only [hj, Bool.or_eq_true, beq_iff_eq, hne, false_or, hun, Bool.false_eq_true] at h1
      rcases h1 with h1 | h1
      · obtain ⟨e, he, hb⟩ := Array.any_eq_true'.1 h1
        simp only [Bool.and_eq_true, beq_iff_eq] at hb
        exact absurd hb.2 (hno e he hb.1)
      · simp only [Bool.and_eq_true, Bool.or_eq_true, Bool.not_eq_true'] at h1
        exact ⟨h1.1, fun hrd => h1.2.resolve_left (by rw [hrd]; simp)⟩

/-- The walk of a region whose order is open. -/
theorem ADraw.of {P : Program} {id : Nat} {ops : Array Oper} {K : St → Prop} {s : St} (order tail : List Nat) (hm : P.follows .mixedOrders = true)
    (hB : (ordB ops order tail (Array.replicate ops.size false) && (order.length + tail.length == ops.size)) = true) (hd : (ops.toList.all fun o => match o.dst with | some d => decide (d < s.m) | none => true) = true)
    (h : aord P ops.toList (order ++ tail) K s) : ADraw P id ops K s := by
  refine ⟨fun x a w hx hr => ?_⟩
  simp only [Bool.and_eq_true, beq_iff_eq] at hB
  have hg : RepSt P x s a w.drew := hr.grew (Grew.drew w)
  refine wp_region_any hm ?_
  have := wpAnyA_ord order tail _ s hB.1 h
  rw [hB.2] at this
  refine wpAnyA_sound hx (m := s.m) (fun o ho d hdd => ?_) (fun s' a' w' h1 h2 h3 => ⟨s', h1, ⟨rfl, h2⟩, h3⟩) _ _ s a _ hg rfl this
  have := (List.all_eq_true.1 hd) o (by simpa using ho)
  simpa [hdd] using this

end Go.Av
