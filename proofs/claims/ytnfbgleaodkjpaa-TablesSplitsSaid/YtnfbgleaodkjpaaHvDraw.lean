/-
  A region whose order is open, over abstract states: the operations that write nothing are taken first, in the order of the text; what is left is forced. Over any program. No toy.
-/
import Derived.Test.YtnfbgleaodkjpaaHvDrawA
set_option linter.all false
namespace Go.Av
open Go.RowKit

theorem aAlloc_mono {P : Program} {s : St} {K K' : A → St → Prop} (hq : ∀ r s, K r s → K' r s) {e : TypeId} (h : aAlloc P s e K) : aAlloc P s e K' := by
  unfold aAlloc at h ⊢
  (repeat' (first | exact hq _ _ h | exact h.elim | split at h | (obtain ⟨h0, h⟩ := h; refine ⟨h0, ?_⟩)))
theorem aBox_mono {s : St} {K K' : A → St → Prop} (hq : ∀ r s, K r s → K' r s) {y : Operand} (h : aBox s y K) : aBox s y K' := by
  unfold aBox at h ⊢
  (repeat' (first | exact hq _ _ h | exact h.elim | split at h | (obtain ⟨h0, h⟩ := h; refine ⟨h0, ?_⟩)))
theorem aStore_mono {P : Program} {s : St} {K K' : A → St → Prop} (hq : ∀ r s, K r s → K' r s) {t : TypeId} {y z : Operand} (h : aStore P s t y z K) : aStore P s t y z K' := by
  unfold aStore at h ⊢
  (repeat' (first | exact hq _ _ h | exact h.elim | split at h | (obtain ⟨h0, h⟩ := h; refine ⟨h0, ?_⟩)))
theorem aMake_mono {P : Program} {s : St} {K K' : A → St → Prop} (hq : ∀ r s, K r s → K' r s) {t : TypeId} {y z : Operand} (h : aMake P s t y z K) : aMake P s t y z K' := by
  unfold aMake at h ⊢
  (repeat' (first | exact hq _ _ h | exact h.elim | split at h | (obtain ⟨h0, h⟩ := h; refine ⟨h0, ?_⟩)))

section level
variable {P : Program} {s s1 : St} {K K1 : A → St → Prop}

variable {kd : Op → OKd}

/-- A call of a function value. -/
def isCall : Op → Bool
  | .call c => (match c.callee with | .value _ => true | _ => false)
  | _ => false

theorem adop_ex {o : Op} (hp : pureOp kd o = true) (h : adop P kd s o K) : ∃ r, adop P kd s o (fun r' s' => r' = r ∧ s' = s) ∧ K r s := by
  unfold pureOp at hp
  unfold adop at h ⊢
  cases hkd : kd o with
  | heap => simp only [hkd, Bool.false_eq_true] at hp
  | dld =>
    simp only [hkd] at h ⊢
    unfold aDload at h ⊢
    split at h
    · obtain ⟨p, c, h1, h2, h3, h4, h5⟩ := h; exact ⟨_, ⟨p, c, h1, h2, h3, h4, rfl, rfl⟩, h5⟩
    · exact h.elim
  | plain =>
    simp only [hkd] at h hp ⊢
    have hP : ∀ o, aheapP P s o K → ∃ r, (aop0 P s o (fun r' s' => r' = r ∧ s' = s) ∨ aheapP P s o (fun r' s' => r' = r ∧ s' = s)) ∧ K r s := fun o h => by
      obtain ⟨r, h1, h2⟩ := aheapP_ex h; exact ⟨r, .inr h1, h2⟩
    have hO : ∀ o, (∃ r, aop0 P s o (fun r' s' => r' = r ∧ s' = s) ∧ K r s) → ∃ r, (aop0 P s o (fun r' s' => r' = r ∧ s' = s) ∨ aheapP P s o (fun r' s' => r' = r ∧ s' = s)) ∧ K r s := fun o ⟨r, h1, h2⟩ => ⟨r, .inl h1, h2⟩
    cases o <;> simp only [pureOp0, Bool.false_eq_true] at hp
    case move x => exact h.elim (fun h => hO _ ⟨_, ⟨rfl, rfl⟩, h⟩) (hP _)
    case assign x => exact h.elim (fun h => hO _ ⟨_, ⟨rfl, rfl⟩, h⟩) (hP _)
    case pick c p q =>
      refine h.elim (fun h => hO _ ?_) (hP _)
      simp only [aop0] at h ⊢
      split at h
      · rename_i b hb
        cases b with
        | true => exact ⟨_, ⟨fun _ => ⟨rfl, trivial⟩, fun e => by cases e⟩, h.1 rfl⟩
        | false => exact ⟨_, ⟨fun e => (by cases e), fun _ => ⟨rfl, trivial⟩⟩, h.2 rfl⟩
      · exact h.elim
    case build t ps => exact h.elim (fun h => hO _ (aBuild_ex h)) (hP _)
    case buildSlice t n ps => exact h.elim (fun h => hO _ (aBuildSlice_ex h)) (hP _)
    case load t x => exact h.elim (fun h => hO _ (aLoad_ex h)) (hP _)
    case binOp op t x y t2 => exact h.elim (fun h => hO _ (aBin_ex h)) (hP _)
    case unOp op t x => exact h.elim (fun h => hO _ (aUn_ex h)) (hP _)
    case convert t1 t2 x => exact h.elim (fun h => hO _ (aConvert_ex h)) (hP _)
    case makeFunc fn f c => exact h.elim (fun h => hO _ (aMakeFunc_ex h)) (hP _)
    case slice t x lo hi mx => exact h.elim (fun h => hO _ (aSlice_ex h)) (hP _)
    case fieldAddr t x i => exact h.elim (fun h => hO _ (aFieldAddr_ex h)) (hP _)
    case field t x i => exact h.elim (fun h => hO _ (aField_ex h)) (hP _)
    case indexAddr t x ix => exact h.elim (fun h => hO _ (aIndexAddr_ex h)) (hP _)
    case index t x ix => exact h.elim (fun h => hO _ (aIndex_ex h)) (hP _)
    case extract x i => exact h.elim (fun h => hO _ (aExtract_ex h)) (hP _)
    case nilCheck x => exact h.elim (fun h => h.elim) (hP _)
    case call c =>
      obtain ⟨callee, args, tys⟩ := c
      cases callee with
      | value f =>
        simp only [] at h ⊢
        obtain ⟨g, caps, as, r, h1, h2, h3, h4⟩ := h
        exact ⟨r, ⟨g, caps, as, r, h1, h2, h3, rfl, rfl⟩, h4⟩
      | invoke r m => simp at hp
      | builtin b =>
        cases b <;> simp at hp
        all_goals
          simp only [] at h ⊢
          refine h.elim (fun h => hO _ ?_) (hP _)
          unfold aop0 at h ⊢
          simp only [] at h ⊢
          split at h
        all_goals first | contradiction | exact h.elim | exact aLen_ex h | exact aMin_ex h

theorem refIds_congr {l : List Operand} (h : ∀ x ∈ l, aeval s1 x = aeval s x) : refIds s1 l = refIds s l := by
  induction l with
  | nil => rfl
  | cons o l ih => simp only [refIds, h o (List.mem_cons_self ..), ih fun x hx => h x (List.mem_cons_of_mem _ hx)]

theorem aLoad_congr' (hK : ∀ r, K1 r s1 = K r s) {t : TypeId} {y : Operand} (hy : aeval s1 y = aeval s y) (hh : ∀ id off, aeval s y = .one (.ref id off) → s1.h id = s.h id) : aLoad P s1 t y K1 = aLoad P s t y K := by
  unfold aLoad
  rw [hy]
  generalize aeval s y = r at *
  split <;> simp only [hK]
  rename_i id off _ _
  rw [hh id off rfl]

theorem aCallee_congr {f : Operand} (h : aeval s1 f = aeval s f) : aCallee s1 f = aCallee s f := by unfold aCallee; rw [h]

theorem aop0_congr {o : Op} (hp : pureOp0 o = true) (hnc : isCall o = false) (hx : ∀ x ∈ o.operands.toList, aeval s1 x = aeval s x) (hh : ∀ t y, o = .load t y → ∀ id off, aeval s y = .one (.ref id off) → s1.h id = s.h id) (hK : ∀ r, K1 r s1 = K r s) : aop0 P s1 o K1 = aop0 P s o K := by
  cases o <;> simp only [pureOp0, Bool.false_eq_true] at hp
  case move x => simp only [aop0, hx x (by simp [Op.operands]), hK]
  case assign x => simp only [aop0, hx x (by simp [Op.operands]), hK]
  case pick c p q => simp only [aop0, hx c (by simp [Op.operands]), hx p (by simp [Op.operands]), hx q (by simp [Op.operands]), hK]
  case build t ps =>
    refine aBuild_congr hK (List.map_congr_left fun p hp => ?_)
    rw [hx p.2 (by simp only [Op.operands]; exact List.mem_map.2 ⟨p, hp, rfl⟩)]
  case buildSlice t n ps =>
    refine aBuildSlice_congr hK ?_
    have : ∀ (l : List (Nat × Operand)), (∀ p ∈ l, aeval s1 p.2 = aeval s p.2) → l.mapM (fun p => lowCells (aeval s1 p.2)) = l.mapM (fun p => lowCells (aeval s p.2)) := by
      intro l
      induction l with
      | nil => intro _; rfl
      | cons p l ih => intro h; rw [List.mapM_cons, List.mapM_cons, h p (List.mem_cons_self ..), ih fun q hq => h q (List.mem_cons_of_mem _ hq)]
    exact this _ fun p hp => hx p.2 (by simp only [Op.operands]; exact List.mem_map.2 ⟨p, hp, rfl⟩)
  case load t x => exact aLoad_congr' hK (hx x (by simp [Op.operands])) (hh t x rfl)
  case binOp op t x y t2 => exact aBin_congr hK (hx x (by simp [Op.operands])) (hx y (by simp [Op.operands]))
  case unOp op t x => exact aUn_congr hK (hx x (by simp [Op.operands]))
  case convert t1 t2 x => exact aConvert_congr hK (hx x (by simp [Op.operands]))
  case makeFunc fn f c => exact aMakeFunc_congr hK (refIds_congr fun x hxx => hx x (by simp only [Op.operands, Array.toList_append, List.mem_append]; exact .inr hxx))
  case slice t x lo hi mx =>
    have ob : ∀ (o : Option Operand), (∀ y, o = some y → aeval s1 y = aeval s y) → ∀ d, obd s1 d o = obd s d o := fun o ho d => by
      cases o with
      | none => rfl
      | some y => simp only [obd, ho y rfl]
    exact aSlice_congr hK (hx x (by simp [Op.operands])) (ob lo fun y hy => hx y (by subst hy; simp [Op.operands])) (ob hi fun y hy => hx y (by subst hy; simp [Op.operands])) (ob mx fun y hy => hx y (by subst hy; simp [Op.operands]))
  case fieldAddr t x i => exact aFieldAddr_congr hK (hx x (by simp [Op.operands]))
  case field t x i => exact aField_congr hK (hx x (by simp [Op.operands]))
  case indexAddr t x ix => exact aIndexAddr_congr hK (hx x (by simp [Op.operands])) (hx ix (by simp [Op.operands]))
  case index t x ix => exact aIndex_congr hK (hx x (by simp [Op.operands])) (hx ix (by simp [Op.operands]))
  case extract x i => exact aExtract_congr hK (hx x (by simp [Op.operands]))
  case nilCheck x => rfl
  case call c =>
    obtain ⟨callee, args, tys⟩ := c
    cases callee with
    | value f => simp [isCall] at hnc
    | invoke r m => simp at hp
    | builtin b =>
      have hy : ∀ y ∈ args.toList, aeval s1 y = aeval s y := fun y hy => hx y (by simp only [Op.operands, Call.operands, Array.toList_append, List.mem_append]; exact .inr hy)
      cases b <;> simp at hp
      all_goals
        simp only [aop0]
        split
      all_goals first
        | contradiction
        | rfl
        | (rename_i y z _ _ ha; exact aMin_congr hK (hy y (by rw [ha]; simp)) (hy z (by rw [ha]; simp)))
        | (rename_i y z _ ha; exact aMin_congr hK (hy y (by rw [ha]; simp)) (hy z (by rw [ha]; simp)))
        | (rename_i y t _ ha _; exact aLen_congr hK (hy y (by rw [ha]; simp)))

theorem adop_congr {o : Op} (hp : pureOp kd o = true) (hx : ∀ x ∈ o.operands.toList, aeval s1 x = aeval s x) (hh : readsH kd o = true → s1.H = s.H ∧ ∀ t y, o = .load t y → ∀ id off, aeval s y = .one (.ref id off) → s1.h id = s.h id) (hK : ∀ r, K1 r s1 = K r s) : adop P kd s1 o K1 = adop P kd s o K := by
  unfold pureOp at hp
  unfold readsH at hh
  unfold adop
  cases hkd : kd o with
  | heap => simp only [hkd, Bool.false_eq_true] at hp
  | dld =>
    simp only []
    cases o
    case load t y => simp only [aDload, hx y (by simp [Op.operands]), hK]
    all_goals rfl
  | plain =>
    simp only [hkd] at hp hh
    simp only []
    by_cases hnc : isCall o = true
    · cases o <;> simp only [isCall, Bool.false_eq_true] at hnc
      rename_i c
      obtain ⟨callee, args, tys⟩ := c
      cases callee with
      | value f =>
        have hf := aCallee_congr (s := s) (s1 := s1) (f := f) (hx f (by simp [Op.operands, Call.operands]))
        have ha : args.toList.map (aeval s1) = args.toList.map (aeval s) := List.map_congr_left fun y hy => hx y (by simp only [Op.operands, Call.operands, Array.toList_append, List.mem_append]; exact .inr hy)
        simp only [apure, hf, ha, hK]
      | invoke r m => simp [pureOp0] at hp
      | builtin b => simp at hnc
    · replace hnc : isCall o = false := by simpa using hnc
      have e1 := aop0_congr (P := P) (K := K) (K1 := K1) hp hnc hx (fun t y ho => (hh (by rw [ho]; rfl)).2 t y ho) hK
      have e2 := aheapP_congr (P := P) (K := K) (K1 := K1) hx (fun hl => (hh hl).1) hK
      cases o
      case call c =>
        obtain ⟨callee, args, tys⟩ := c
        cases callee with
        | value f => simp [isCall] at hnc
        | _ => simp only [e1, e2]
      all_goals simp only [e1, e2]

theorem adop_mono {o : Op} (hq : ∀ r s, K r s → K1 r s) (h : adop P kd s o K) : adop P kd s o K1 := by
  have hpu : ∀ f args, apure P s f args K → apure P s f args K1 := fun f args ⟨g, caps, as, r, h1, h2, h3, h4⟩ => ⟨g, caps, as, r, h1, h2, h3, hq _ _ h4⟩
  have hsc : ∀ f args, ascal P s f args K → ascal P s f args K1 := fun f args ⟨g, caps, as, r, h1, h2, h3, h4, h5⟩ => ⟨g, caps, as, r, h1, h2, h3, h4, hq _ _ h5⟩
  have hhc : ∀ f args, ahcall P s f args K → ahcall P s f args K1 := fun f args ⟨g, caps, as, r, H', h1, h2, h3, h4⟩ => ⟨g, caps, as, r, H', h1, h2, h3, hq _ _ h4⟩
  unfold adop at h ⊢
  cases hkd : kd o with
  | plain =>
    simp only [hkd] at h ⊢
    cases o with
    | call c =>
      simp only [] at h ⊢
      split at h
      · exact hpu _ _ h
      · exact h.imp (aop0_mono hq) (aheapP_mono hq)
    | _ => exact h.imp (aop0_mono hq) (aheapP_mono hq)
  | heap =>
    simp only [hkd] at h ⊢
    cases o with
    | call c =>
      simp only [] at h ⊢
      split at h
      · exact h.imp (hhc _ _) fun h => h.imp (hsc _ _) (hpu _ _)
      · exact aheap_mono hq h
    | _ => exact aheap_mono hq h
  | dld =>
    simp only [hkd] at h ⊢
    unfold aDload at h ⊢
    split at h
    · obtain ⟨p, c, h1, h2, h3, h4, h5⟩ := h; exact ⟨p, c, h1, h2, h3, h4, hq _ _ h5⟩
    · exact h.elim

theorem aop0_frame {o : Op} (hnp : pureOp0 o = false) (h : aop0 P s o K) : aop0 P s o fun r s' => K r s' ∧ s'.t = s.t ∧ (keepsH0 o = true → s'.h = s.h ∧ s'.H = s.H) := by
  cases o <;> simp only [pureOp0, reduceCtorEq] at hnp
  case alloc e => unfold aop0 at h ⊢; exact aAlloc_mono (fun r s' (h12 : _ ∧ _) => ⟨h12.1, h12.2, fun e => by cases e⟩) (aAlloc_frame h)
  case box e x => unfold aop0 at h ⊢; exact aBox_mono (fun r s' (h12 : _ ∧ _) => ⟨h12.1, h12.2, fun e => by cases e⟩) (aBox_frame h)
  case store t x y => unfold aop0 at h ⊢; exact aStore_mono (fun r s' (h12 : _ ∧ _) => ⟨h12.1, h12.2, fun e => by cases e⟩) (aStore_frame h)
  case makeSlice t l c => unfold aop0 at h ⊢; exact aMake_mono (fun r s' (h12 : _ ∧ _) => ⟨h12.1, h12.2, fun e => by cases e⟩) (aMake_frame h)
  case range t y => unfold aop0 at h ⊢; exact aRange_mono (fun r s' (h12 : _ ∧ _) => ⟨h12.1, h12.2.1, fun _ => h12.2.2⟩) (aRange_frame h)
  case next y b => unfold aop0 at h ⊢; exact aNext_mono (fun r s' (h12 : _ ∧ _) => ⟨h12.1, h12.2.1, fun _ => h12.2.2⟩) (aNext_frame h)
  case makeMap t r => unfold aop0 at h ⊢; exact aMakeMap_mono (fun r s' (h12 : _ ∧ _) => ⟨h12.1, h12.2.1, fun _ => h12.2.2⟩) (aMakeMap_frame h)
  case lookup t y ix ok => unfold aop0 at h ⊢; exact aLookup_mono (fun r s' (h12 : _ ∧ _) => ⟨h12.1, h12.2.1, fun _ => h12.2.2⟩) (aLookup_frame h)
  case mapUpdate t y ix v => unfold aop0 at h ⊢; exact aMapUpdate_mono (fun r s' (h12 : _ ∧ _) => ⟨h12.1, h12.2.1, fun _ => h12.2.2⟩) (aMapUpdate_frame h)
  case call c =>
    obtain ⟨callee, args, tys⟩ := c
    cases callee with
    | value f => simp at hnp
    | invoke r m => exact h.elim
    | builtin b =>
      unfold aop0 at h ⊢
      simp only [] at h ⊢
      split at h
      · simp at hnp
      · exact ⟨h.1, aAppend_mono (fun r s' ⟨h1, h2, h3⟩ => ⟨h1, h2, fun _ => h3⟩) (aAppend_frame h.2)⟩
      · simp at hnp
      · simp at hnp
      · exact h.elim
  all_goals exact h.elim

theorem adop_frame {o : Op} (h : adop P kd s o K) : adop P kd s o fun r s' => K r s' ∧ s'.t = s.t ∧ (keepsH kd o = true → s'.h = s.h ∧ s'.H = s.H) := by
  have same : ∀ {r : A} {s' : St}, K r s' ∧ s' = s → K r s' ∧ s'.t = s.t ∧ (keepsH kd o = true → s'.h = s.h ∧ s'.H = s.H) := fun ⟨h1, h2⟩ => by subst h2; exact ⟨h1, rfl, fun _ => ⟨rfl, rfl⟩⟩
  by_cases hp : pureOp kd o = true
  · obtain ⟨r, h1, h2⟩ := adop_ex hp h
    exact adop_mono (fun r' s' ⟨e1, e2⟩ => same ⟨e1 ▸ e2 ▸ h2, e2⟩) h1
  · cases hkd : kd o with
    | dld => simp [pureOp, hkd] at hp
    | plain =>
      have hnp : pureOp0 o = false := by simpa [pureOp, hkd] using hp
      have hkk : keepsH kd o = keepsH0 o := by simp [keepsH, hkd]
      rw [hkk]
      have hP0 : aheapP P s o K → False := fun h' => by
        cases o <;> simp only [pureOp0, reduceCtorEq] at hnp <;> first | exact h' | skip
        rename_i c
        obtain ⟨callee, args, tys⟩ := c
        cases callee with
        | builtin b => cases b <;> simp at hnp <;> exact h'
        | _ => exact h'
      unfold adop at h ⊢
      simp only [hkd] at h ⊢
      cases o
      case call c =>
        obtain ⟨callee, args, tys⟩ := c
        cases callee with
        | value f => simp [pureOp0] at hnp
        | _ => exact h.elim (fun h => .inl (aop0_frame hnp h)) fun h => (hP0 h).elim
      all_goals exact h.elim (fun h => .inl (aop0_frame hnp h)) fun h => (hP0 h).elim
    | heap =>
      have hkk : keepsH kd o = false := by simp [keepsH, hkd]
      rw [hkk]
      have hA : ∀ o, aheap P s o K → aheap P s o fun r s' => K r s' ∧ s'.t = s.t ∧ (false = true → s'.h = s.h ∧ s'.H = s.H) := fun o h => aheap_mono (fun r s' ⟨h1, h2⟩ => ⟨h1, h2, fun e => by cases e⟩) (aheap_frame h)
      unfold adop at h ⊢
      simp only [hkd] at h ⊢
      cases o with
      | call c =>
        simp only [] at h ⊢
        split at h
        · rcases h with ⟨g, caps, as, r, H', h1, h2, h3, h4⟩ | ⟨g, caps, as, r, h1, h2, h3, h4, h5⟩ | ⟨g, caps, as, r, h1, h2, h3, h4⟩
          · exact .inl ⟨g, caps, as, r, H', h1, h2, h3, h4, rfl, fun e => by cases e⟩
          · exact .inr (.inl ⟨g, caps, as, r, h1, h2, h3, h4, h5, rfl, fun _ => ⟨rfl, rfl⟩⟩)
          · exact .inr (.inr ⟨g, caps, as, r, h1, h2, h3, h4, rfl, fun _ => ⟨rfl, rfl⟩⟩)
        · exact hA _ h
      | _ => exact hA _ h

theorem aop0_set {o : Op} {d : Nat} {q : A} (hp : pureOp0 o = false) (hx : ∀ x ∈ o.operands.toList, aeval (s.set d q) x = aeval s x) : aop0 P (s.set d q) o K = aop0 P s o fun r s' => K r (s'.set d q) := by
  cases o <;> simp only [pureOp0, reduceCtorEq] at hp
  case alloc e => exact aAlloc_set
  case box e x => exact aBox_set (hx x (by simp [Op.operands]))
  case store t x y => exact aStore_set (hx x (by simp [Op.operands])) (hx y (by simp [Op.operands]))
  case makeSlice t x y => exact aMake_set (hx x (by simp [Op.operands])) (hx y (by simp [Op.operands]))
  case range t y => exact aRange_set (hx y (by simp [Op.operands]))
  case next y b => exact aNext_set (hx y (by simp [Op.operands]))
  case makeMap t r => exact aMakeMap_set
  case lookup t y ix ok => exact aLookup_set (hx y (by simp [Op.operands])) (hx ix (by simp [Op.operands]))
  case mapUpdate t y ix v => exact aMapUpdate_set (hx y (by simp [Op.operands])) (hx ix (by simp [Op.operands])) (hx v (by simp [Op.operands]))
  case call c =>
    obtain ⟨callee, args, tys⟩ := c
    cases callee with
    | value f => simp at hp
    | invoke r m => rfl
    | builtin b =>
      have hy : ∀ y ∈ args.toList, aeval (s.set d q) y = aeval s y := fun y hy => hx y (by simp only [Op.operands, Call.operands, Array.toList_append, List.mem_append]; exact .inr hy)
      unfold aop0
      simp only []
      split
      · simp at hp
      · rename_i y z _ _ ha _; rw [aAppend_set (hy y (by rw [ha]; simp)) (hy z (by rw [ha]; simp))]
      · simp at hp
      · simp at hp
      · rfl
  all_goals rfl

theorem adop_set {o : Op} {d : Nat} {q : A} (hx : ∀ x ∈ o.operands.toList, aeval (s.set d q) x = aeval s x) : adop P kd (s.set d q) o K = adop P kd s o fun r s' => K r (s'.set d q) := by
  by_cases hp : pureOp kd o = true
  · exact adop_congr hp hx (fun _ => ⟨rfl, fun _ _ _ _ _ _ => rfl⟩) fun r => rfl
  · have hA := aheap_congr (P := P) (K := K) (s := s) (s1 := s.set d q) (o := o) hx rfl (R := fun s' => s'.set d q) (fun H => rfl) rfl
    unfold pureOp at hp
    unfold adop
    have hcf : ∀ c f, c.callee = .value f → o = .call c → aCallee (s.set d q) f = aCallee s f ∧ c.args.toList.map (aeval (s.set d q)) = c.args.toList.map (aeval s) := fun c f hc ho => by
      subst ho
      obtain ⟨callee, args, tys⟩ := c
      subst hc
      exact ⟨aCallee_congr (hx f (by simp [Op.operands, Call.operands])), List.map_congr_left fun y hy => hx y (by simp only [Op.operands, Call.operands, Array.toList_append, List.mem_append]; exact .inr hy)⟩
    cases hkd : kd o with
    | dld => simp [hkd] at hp
    | plain =>
      have hnp : pureOp0 o = false := by simpa [hkd] using hp
      have e1 := aop0_set (P := P) (K := K) hnp hx
      have hP0 : ∀ (s : St) (K : A → St → Prop), aheapP P s o K = False := fun s K => by
        cases o <;> simp only [pureOp0, reduceCtorEq] at hnp <;> first | rfl | skip
        rename_i c
        obtain ⟨callee, args, tys⟩ := c
        cases callee with
        | builtin b => cases b <;> simp at hnp <;> rfl
        | _ => rfl
      simp only []
      cases o
      case call c =>
        obtain ⟨callee, args, tys⟩ := c
        cases callee with
        | value f => simp [pureOp0] at hnp
        | _ => simp only [e1, hP0]
      all_goals simp only [e1, hP0]
    | heap =>
      simp only []
      cases o
      case call c =>
        simp only []
        split
        · rename_i f hf
          obtain ⟨h1, h2⟩ := hcf c f hf rfl
          simp only [ahcall, ascal, apure, h1, h2]
          rfl
        · exact hA
      all_goals exact hA

end level

/-- Is the operation wanted, by its guard? -/
def awanted (ops : List Oper) (o : Oper) (s : St) : Option Bool :=
  match o.guard with
  | none => some true
  | some (j, want) => match (ops[j]?).bind (·.dst) with
    | some g => (match s.t g with | .one (.d (.v (.bool b))) => some (b == want) | .tup [] => some false | _ => none)
    | none => none

theorem awanted_sound {P : Program} {x : Ent} {s : St} {a : Act} {w : World} (h : RepSt P x s a w) {ops : Array Oper} {o : Oper} {b : Bool} (hw : awanted ops.toList o s = some b) : Region.wanted o (yielded ops a.tmps) = b := by
  unfold awanted at hw
  split at hw
  · rename_i hg; simp only [Option.some.injEq] at hw; subst hw; simp [Region.wanted, hg]
  · rename_i j want hg
    split at hw
    · rename_i g hgd
      have hgd' : (ops[j]?).bind (·.dst) = some g := by simpa using hgd
      rw [wanted_eq (a := a) hg hgd']
      obtain ⟨_, _, E, _, h4⟩ := h
      have h5 := h4 g
      split at hw
      · rename_i c hc
        simp only [Option.some.injEq] at hw
        subst hw
        rw [hc] at h5
        have hv := v_inv h5
        rw [Array.getD_eq_getD_getElem?] at hv
        cases hh : a.tmps[g]? with
        | none => rw [hh] at hv; simp [undef] at hv
        | some u => rw [hh] at hv; simp at hv; rw [hv]
      · rename_i hc
        simp only [Option.some.injEq] at hw
        subst hw
        rw [hc] at h5
        have hv : a.tmps.getD g undef = undef := by
          generalize a.tmps.getD g undef = va at h5
          cases h5 with
          | tup _ vs hl _ => have : vs = [] := List.eq_nil_of_length_eq_zero hl; subst this; rfl
        split
        · rename_i b hb'
          rw [Array.getD_eq_getD_getElem?, hb'] at hv
          simp [undef] at hv
        · rfl
      · cases hw
    · cases hw

def qA (P : Program) (kd : Op → OKd) (ops : Array Oper) (i : Nat) (K : St → Prop) (s : St) : Prop :=
  match ops[i]? with
  | none => False
  | some o => match awanted ops.toList o s with
    | some true => adop P kd s o.op fun r s' => K (s'.put o.dst r)
    | some false => K (s.put o.dst (.tup []))
    | none => False

def wpAnyA (P : Program) (kd : Op → OKd) (md : Region.Mode) (ops : Array Oper) (K : St → Prop) : Nat → Array Bool → St → Prop
  | 0, listed, s => Region.ready md ops listed = [] ∧ K s
  | fuel + 1, listed, s => (Region.ready md ops listed = [] → K s) ∧ ∀ i ∈ Region.ready md ops listed, qA P kd ops i (wpAnyA P kd md ops K fuel (listed.setIfInBounds i true)) s

theorem wpAnyA_sound {P : Program} {kd : Op → OKd} {md : Region.Mode} {ops : Array Oper} {K : St → Prop} {x : Ent} (hx : x.ok) {Q : Exit → Act → World → Prop} {m : Nat} (hm : ∀ o ∈ ops, ∀ d, o.dst = some d → d < m)
    (hQ : ∀ s a w, RepSt P x s a w → K s → s.m = m → Q .normal a w) : ∀ (fuel : Nat) (listed : Array Bool) (s : St) (a : Act) (w : World), RepSt P x s a w → s.m = m → wpAnyA P kd md ops K fuel listed s → wpAny P md ops Q fuel listed a w
  | 0, _, s, a, w, hr, hs, h => ⟨h.1, hQ s a w hr h.2 hs⟩
  | fuel + 1, listed, s, a, w, hr, hs, h => by
    refine ⟨fun h0 => hQ s a w hr (h.1 h0) hs, fun i hi => ?_⟩
    have hq := h.2 i hi
    unfold qA at hq
    unfold wpOp
    split at hq
    · exact hq.elim
    · rename_i o ho
      simp only [ho]
      have hmo := hm o (Array.mem_of_getElem? ho)
      split at hq
      · rename_i hw
        rw [if_pos (awanted_sound hr hw)]
        refine .inl (aop_sound hx hr (aop_of_adop hq) fun r s' v w' hr' hk hm' => ?_)
        exact wpAnyA_sound hx hm hQ fuel _ _ _ _ (hr'.put o.dst fun d hd => by rw [hm', hs]; exact hmo d hd) (by cases hdd : o.dst <;> simp [hm', hs]) hk
      · rename_i hw
        rw [if_neg (by rw [awanted_sound hr hw]; simp)]
        have hsv : RepSV P x s a w (.tup []) undef := hr.sv fun _ _ _ => .tup [] [] rfl (by simp)
        exact wpAnyA_sound hx hm hQ fuel _ _ _ _ (hsv.put o.dst fun d hd => by rw [hs]; exact hmo d hd) (by cases hdd : o.dst <;> simp [hs]) hq
      · exact hq.elim

/-- In this state the operation yields r and changes nothing else. -/
def YP (P : Program) (kd : Op → OKd) (ops : Array Oper) (o : Oper) (r : A) (s : St) : Prop :=
  (awanted ops.toList o s = some true ∧ adop P kd s o.op fun r' s' => r' = r ∧ s' = s) ∨ (awanted ops.toList o s = some false ∧ r = .tup [])

theorem YP.of_qA {P : Program} {kd : Op → OKd} {ops : Array Oper} {i : Nat} {o : Oper} {K : St → Prop} {s : St} (hi : ops[i]? = some o) (hp : pureOp kd o.op = true) (h : qA P kd ops i K s) : ∃ r, YP P kd ops o r s ∧ K (s.put o.dst r) := by
  unfold qA at h
  simp only [hi] at h
  split at h
  · rename_i hw
    obtain ⟨r, h1, h2⟩ := adop_ex hp h
    exact ⟨r, .inl ⟨hw, h1⟩, h2⟩
  · rename_i hw; exact ⟨_, .inr ⟨hw, rfl⟩, h⟩
  · exact h.elim

theorem YP.qA {P : Program} {kd : Op → OKd} {ops : Array Oper} {i : Nat} {o : Oper} {K : St → Prop} {s : St} {r : A} (hi : ops[i]? = some o) (h : YP P kd ops o r s) (hK : K (s.put o.dst r)) : qA P kd ops i K s := by
  unfold Av.qA
  simp only [hi]
  rcases h with ⟨hw, h⟩ | ⟨hw, rfl⟩
  · simp only [hw]; exact adop_mono (fun r' s' ⟨e1, e2⟩ => by rw [e1, e2]; exact hK) h
  · simp only [hw]; exact hK

theorem qA_mono {P : Program} {kd : Op → OKd} {ops : Array Oper} {i : Nat} {K K' : St → Prop} {s : St} (hq : ∀ s, K s → K' s) (h : qA P kd ops i K s) : qA P kd ops i K' s := by
  unfold qA at h ⊢
  split at h
  · exact h.elim
  · rename_i o ho
    try simp only []
    split at h
    · rename_i hw; exact adop_mono (fun r s' hk => hq _ hk) h
    · rename_i hw; exact hq _ h
    · exact h.elim

theorem aeval_put {ops : Array Oper} {o : Oper} {s : St} {dst : Option Nat} {r : A} (h : ∀ d, dst = some d → d ∉ o.looksAt ops) : ∀ x ∈ o.op.operands.toList, aeval (s.put dst r) x = aeval s x := by
  intro x hx
  cases dst with
  | none => rfl
  | some d =>
    cases x with
    | tmp t =>
      have : t ≠ d := fun e => h d rfl (by
        subst e
        exact List.mem_append_left _ (List.mem_filterMap.2 ⟨.tmp t, hx, rfl⟩))
      simp [aeval, upd, this]
    | _ => rfl

theorem awanted_put {ops : Array Oper} {o : Oper} {s s' : St} (ht : s'.t = s.t) {dst : Option Nat} {r : A} (h : ∀ d, dst = some d → d ∉ o.looksAt ops) : awanted ops.toList o (s'.put dst r) = awanted ops.toList o s := by
  unfold awanted
  cases hg : o.guard with
  | none => rfl
  | some jw =>
    obtain ⟨j, want⟩ := jw
    simp only []
    cases hgd : (ops.toList[j]?).bind (·.dst) with
    | none => rfl
    | some g =>
      simp only []
      have : (s'.put dst r).t g = s.t g := by
        cases dst with
        | none => rw [St.put_none, ht]
        | some d =>
          have hne : g ≠ d := fun e => h d rfl (by
            subst e
            refine List.mem_append_right _ ?_
            simp only [hg]
            have : (ops[j]?).bind (·.dst) = some g := by simpa using hgd
            simp [this])
          simp [upd, hne, ht]
      rw [this]

theorem put_comm (s : St) {d e : Option Nat} (r q : A) (h : ∀ i, d = some i → e ≠ some i) : (s.put d r).put e q = (s.put e q).put d r := by
  cases d with
  | none => rfl
  | some i =>
    cases e with
    | none => rfl
    | some j =>
      have hne : i ≠ j := fun e => h i rfl (by rw [e])
      simp only [St.put_some, St.set]
      congr 1
      funext k
      by_cases h1 : k = i <;> by_cases h2 : k = j <;> simp_all [upd]

theorem YP.put {P : Program} {kd : Op → OKd} {ops : Array Oper} {o : Oper} {r : A} {s s' : St} (hp : pureOp kd o.op = true) (h : YP P kd ops o r s) (ht : s'.t = s.t) (hh : readsH kd o.op = true → s'.h = s.h ∧ s'.H = s.H) {dst : Option Nat} {q : A}
    (hd : ∀ d, dst = some d → d ∉ o.looksAt ops) : YP P kd ops o r (s'.put dst q) := by
  unfold YP at *
  rw [awanted_put ht hd]
  refine h.imp (fun ⟨h1, h2⟩ => ⟨h1, ?_⟩) _root_.id
  have hx : ∀ x ∈ o.op.operands.toList, aeval (s'.put dst q) x = aeval s x := fun x hx => by
    rw [aeval_put hd x hx]
    cases x <;> simp [aeval, ht]
  rw [adop_congr (s := s) hp hx (fun e => by
    have h1 : (s'.put dst q).h = s'.h := by cases dst <;> rfl
    have h2 : (s'.put dst q).H = s'.H := by cases dst <;> rfl
    rw [h1, h2]; exact ⟨(hh e).2, fun _ _ _ id _ _ => by rw [(hh e).1]⟩) (K := fun r' s' => r' = r ∧ s' = s) (fun r' => by simp)]
  exact h2

/-- One operation apart from 'oi' makes no difference to it, nor it to that one. -/
theorem qA_put {P : Program} {kd : Op → OKd} {ops : Array Oper} {j : Nat} {oi oj : Oper} {r : A} (hj : ops[j]? = some oj) (hap : oi.apart ops oj = true) (hp : pureOp kd oi.op = true) (hrk : readsH kd oi.op = true → keepsH kd oj.op = true)
    {K : St → Prop} {s : St} (hy : YP P kd ops oi r s) (h : qA P kd ops j K (s.put oi.dst r)) : qA P kd ops j (fun s' => YP P kd ops oi r s' ∧ K (s'.put oi.dst r)) s := by
  obtain ⟨h1, h2, h3⟩ := Oper.apart_spec hap
  unfold qA at *
  simp only [hj] at *
  rw [awanted_put (s := s) rfl h1] at h
  split at h
  · rename_i hw
    try simp only []
    have hK : adop P kd s oj.op fun q s' => K ((s'.put oi.dst r).put oj.dst q) := by
      cases hd : oi.dst with
      | none => rw [hd] at h; exact h
      | some d =>
        rw [hd] at h
        rw [St.put_some, adop_set (by have := aeval_put (s := s) (r := r) (o := oj) (ops := ops) h1; rw [hd] at this; exact this)] at h
        exact h
    refine adop_mono ?_ (adop_frame hK)
    rintro q s' ⟨hk, ht, hh⟩
    exact ⟨hy.put hp ht (fun e => hh (hrk e)) h3, by rw [← put_comm s' r q h2]; exact hk⟩
  · rename_i hw
    try simp only []
    exact ⟨hy.put hp rfl (fun _ => ⟨rfl, rfl⟩) h3, by rw [← put_comm s r _ h2]; exact h⟩
  · exact h.elim

/-- An operation that writes nothing may be taken first, if every other one either waits for it or is apart from it. -/
theorem wpAnyA_first {P : Program} {kd : Op → OKd} {md : Region.Mode} {ops : Array Oper} {K : St → Prop} {i : Nat} {oi : Oper} {r : A} (hi : ops[i]? = some oi) (hp : pureOp kd oi.op = true) :
    ∀ (fuel : Nat) (listed : Array Bool) (s : St),
      (∀ (j : Nat) (oj : Oper), ops[j]? = some oj → j ≠ i → listed.getD j true = false → (∀ e ∈ oj.after, Region.binds md e = true → e.on ≠ i) → oi.apart ops oj = true ∧ (readsH kd oi.op = true → keepsH kd oj.op = true)) →
      i ∈ Region.ready md ops listed → YP P kd ops oi r s → wpAnyA P kd md ops K fuel (listed.setIfInBounds i true) (s.put oi.dst r) → wpAnyA P kd md ops K (fuel + 1) listed s := by
  intro fuel
  induction fuel with
  | zero =>
    intro listed s _ hr hy H
    refine ⟨fun h => (by rw [h] at hr; cases hr), fun j hj => ?_⟩
    by_cases hji : j = i
    · subst hji; exact hy.qA hi H
    · have := ready_mono hj hji
      rw [H.1] at this
      cases this
  | succ fuel ih =>
    intro listed s hfree hr hy H
    refine ⟨fun h => (by rw [h] at hr; cases hr), fun j hj => ?_⟩
    by_cases hji : j = i
    · subst hji; exact hy.qA hi H
    · have h1 := H.2 j (ready_mono hj hji)
      obtain ⟨hjun, oj, hoj, hall⟩ := mem_ready.1 hj
      have hnot : ∀ e ∈ oj.after, Region.binds md e = true → e.on ≠ i := fun e he hb heq => by
        have h1 := hall e he hb
        have h0 := (mem_ready.1 hr).1
        rw [heq] at h1
        rcases Nat.lt_or_ge i listed.size with h' | h'
        · simp [h'] at h0 h1; rw [h0] at h1; cases h1
        · simp [Array.getElem?_eq_none h'] at h1
      obtain ⟨hap, hrk⟩ := hfree j oj hoj hji hjun hnot
      have h2 := qA_put hoj hap hp hrk hy h1
      have hfree' : ∀ (k : Nat) (ok : Oper), ops[k]? = some ok → k ≠ i → (listed.setIfInBounds j true).getD k true = false →
          (∀ e ∈ ok.after, Region.binds md e = true → e.on ≠ i) → oi.apart ops ok = true ∧ (readsH kd oi.op = true → keepsH kd ok.op = true) := fun k ok hk hki hun hno => by
        refine hfree k ok hk hki ?_ hno
        by_cases hjk : j = k
        · subst hjk; exact hjun
        · rw [getD_set_ne true hjk] at hun; exact hun
      refine qA_mono (fun s' h3 => ih (listed.setIfInBounds j true) s' hfree' (ready_mono hr (Ne.symm hji)) h3.1 ?_) h2
      rw [Array.setIfInBounds_comm _ _ hji]
      exact h3.2

/-! A new box under a plain name: taken first, where nothing else looks at boxes. -/
def St.newAt (s : St) (cs : List C) (d : Nat) : St := (s.new cs).set d (.one (.ref s.n 0))
/-- Operations that look neither at boxes nor at how many plain names there are. -/
def nbox (kd : Op → OKd) (o : Op) : Bool := match kd o with
  | .plain => pureOp0 o && !isLoad o
  | _ => true

theorem adop_newAt {P : Program} {kd : Op → OKd} {s : St} {cs : List C} {d : Nat} {K : A → St → Prop} {o : Op} (hn : nbox kd o = true) (hx : ∀ x ∈ o.operands.toList, aeval (s.newAt cs d) x = aeval s x) (h : adop P kd (s.newAt cs d) o K) :
    adop P kd s o fun r s' => K r (s'.newAt cs d) := by
  have hpure : pureOp kd o = true → readsH kd o = false → adop P kd s o fun r s' => K r (s'.newAt cs d) := fun hp hr => by
    obtain ⟨r, h1, h2⟩ := adop_ex hp h
    rw [adop_congr (s := s) hp hx (fun e => by rw [hr] at e; cases e) (K := fun r' s' => r' = r ∧ s' = s) (fun r' => by simp)] at h1
    exact adop_mono (fun r' s' ⟨e1, e2⟩ => by rw [e1, e2]; exact h2) h1
  unfold nbox at hn
  cases hkd : kd o with
  | plain =>
    simp only [hkd, Bool.and_eq_true, Bool.not_eq_true'] at hn
    exact hpure (by unfold pureOp; rw [hkd]; exact hn.1) (by unfold readsH; rw [hkd]; exact hn.2)
  | dld => exact hpure (by unfold pureOp; rw [hkd]) (by unfold readsH; rw [hkd])
  | heap =>
    have hA := aheap_congr (P := P) (K := K) (s := s) (s1 := s.newAt cs d) (o := o) hx rfl (R := fun s' => s'.newAt cs d) (fun H => rfl) rfl
    unfold adop at h ⊢
    simp only [hkd] at h ⊢
    cases o
    case call c =>
      simp only [] at h ⊢
      split at h
      · rename_i f hf
        obtain ⟨callee, args, tys⟩ := c
        simp only [] at hf
        subst hf
        have hc : aCallee (s.newAt cs d) f = aCallee s f := aCallee_congr (hx f (by simp [Op.operands, Call.operands]))
        have ha : args.toList.map (aeval (s.newAt cs d)) = args.toList.map (aeval s) := List.map_congr_left fun y hy => hx y (by simp only [Op.operands, Call.operands, Array.toList_append, List.mem_append]; exact .inr hy)
        rcases h with ⟨g, caps, as, r, H', h1, h2, h3, h4⟩ | ⟨g, caps, as, r, h1, h2, h3, h4, h5⟩ | ⟨g, caps, as, r, h1, h2, h3, h4⟩
        · exact .inl ⟨g, caps, as, r, H', by rw [← hc]; exact h1, by rw [← ha]; exact h2, h3, h4⟩
        · exact .inr (.inl ⟨g, caps, as, r, by rw [← hc]; exact h1, by rw [← ha]; exact h2, h3, h4, h5⟩)
        · exact .inr (.inr ⟨g, caps, as, r, by rw [← hc]; exact h1, by rw [← ha]; exact h2, h3, h4⟩)
      · exact Eq.mp hA h
    all_goals exact Eq.mp hA h

theorem newAt_put (s : St) (cs : List C) (d : Nat) (dst : Option Nat) (r : A) (h : dst ≠ some d) : (s.newAt cs d).put dst r = (s.put dst r).newAt cs d := by
  have := put_comm (s.new cs) (d := some d) (e := dst) (.one (.ref s.n 0)) r (fun i hi => by cases hi; exact h)
  simp only [St.put_some] at this
  show ((s.new cs).set d (.one (.ref s.n 0))).put dst r = _
  rw [this]
  cases dst <;> rfl

theorem qA_newAt {P : Program} {kd : Op → OKd} {ops : Array Oper} {j d : Nat} {oj : Oper} {cs : List C} (hj : ops[j]? = some oj) (h1 : d ∉ oj.looksAt ops) (h2 : oj.dst ≠ some d) (hn : nbox kd oj.op = true)
    {K : St → Prop} {s : St} (h : qA P kd ops j K (s.newAt cs d)) : qA P kd ops j (fun s' => K (s'.newAt cs d)) s := by
  have hw : awanted ops.toList oj (s.newAt cs d) = awanted ops.toList oj s := awanted_put (s := s) (s' := s.new cs) rfl (dst := some d) fun e he => by cases he; exact h1
  unfold qA at *
  simp only [hj] at *
  rw [hw] at h
  split at h
  · rename_i hw
    try simp only []
    refine adop_mono (fun r s' hk => ?_) (adop_newAt hn (fun x hx => ?_) h)
    · rw [newAt_put _ _ _ _ _ h2] at hk; exact hk
    · exact aeval_put (s := s.new cs) (dst := some d) (r := .one (.ref s.n 0)) (fun e he => by cases he; exact h1) x hx
  · rename_i hw
    try simp only []
    rw [newAt_put _ _ _ _ _ h2] at h; exact h
  · exact h.elim

theorem wpAnyA_alloc {P : Program} {kd : Op → OKd} {md : Region.Mode} {ops : Array Oper} {K : St → Prop} {i d : Nat} {oi : Oper} {e : TypeId} {cs : List C} (hi : ops[i]? = some oi) (he : oi.op = .alloc e) (hkd : kd (.alloc e) = .plain) (hg : oi.guard = none) (hd : oi.dst = some d) (hz : tzero P e = some cs) :
    ∀ (fuel : Nat) (listed : Array Bool) (s : St),
      (∀ (j : Nat) (oj : Oper), ops[j]? = some oj → j ≠ i → listed.getD j true = false → (∀ e ∈ oj.after, Region.binds md e = true → e.on ≠ i) → oi.apart ops oj = true ∧ nbox kd oj.op = true) →
      i ∈ Region.ready md ops listed → wpAnyA P kd md ops K fuel (listed.setIfInBounds i true) (s.newAt cs d) → wpAnyA P kd md ops K (fuel + 1) listed s := by
  have hqi : ∀ (Q : St → Prop) (s : St), Q (s.newAt cs d) → qA P kd ops i Q s := fun Q s h => by
    have hw : awanted ops.toList oi s = some true := by simp [awanted, hg]
    unfold qA
    simp only [hi, hw, he, hd]
    unfold adop
    rw [hkd]
    refine .inl ?_
    unfold aop0
    simp only []
    unfold aAlloc
    rw [hz]
    exact h
  intro fuel
  induction fuel with
  | zero =>
    intro listed s _ hr H
    refine ⟨fun h => (by rw [h] at hr; cases hr), fun j hj => ?_⟩
    by_cases hji : j = i
    · subst hji; exact hqi _ _ H
    · have := ready_mono hj hji
      rw [H.1] at this
      cases this
  | succ fuel ih =>
    intro listed s hfree hr H
    refine ⟨fun h => (by rw [h] at hr; cases hr), fun j hj => ?_⟩
    by_cases hji : j = i
    · subst hji; exact hqi _ _ H
    · have h1 := H.2 j (ready_mono hj hji)
      obtain ⟨hjun, oj, hoj, hall⟩ := mem_ready.1 hj
      have hnot : ∀ e ∈ oj.after, Region.binds md e = true → e.on ≠ i := fun e he hb heq => by
        have h1 := hall e he hb
        have h0 := (mem_ready.1 hr).1
        rw [heq] at h1
        rcases Nat.lt_or_ge i listed.size with h' | h'
        · simp [h'] at h0 h1; rw [h0] at h1; cases h1
        · simp [Array.getElem?_eq_none h'] at h1
      obtain ⟨hap, hnb⟩ := hfree j oj hoj hji hjun hnot
      obtain ⟨a1, a2, _⟩ := Oper.apart_spec hap
      have h2 := qA_newAt hoj (a1 d hd) (a2 d hd) hnb h1
      have hfree' : ∀ (k : Nat) (ok : Oper), ops[k]? = some ok → k ≠ i → (listed.setIfInBounds j true).getD k true = false →
          (∀ e ∈ ok.after, Region.binds md e = true → e.on ≠ i) → oi.apart ops ok = true ∧ nbox kd ok.op = true := fun k ok hk hki hun hno => by
        refine hfree k ok hk hki ?_ hno
        by_cases hjk : j = k
        · subst hjk; exact hjun
        · rw [getD_set_ne true hjk] at hun; exact hun
      refine qA_mono (fun s' h3 => ih (listed.setIfInBounds j true) s' hfree' (ready_mono hr (Ne.symm hji)) ?_) h2
      rw [Array.setIfInBounds_comm _ _ hji]
      exact h3

/-- A new box that may be taken first. -/
def freeN (kd : Op → OKd) (md : Region.Mode) (ops : Array Oper) (listed : Array Bool) (i : Nat) : Bool :=
  match ops[i]? with
  | none => false
  | some oi => (match oi.op with | .alloc e => (match kd (.alloc e) with | .plain => true | _ => false) | _ => false) && (oi.guard.isNone && (oi.dst.isSome && (List.range ops.size).all fun j => j == i || listed.getD j true || match ops[j]? with
      | some oj => oj.after.any (fun e => Region.binds md e && e.on == i) || (oi.apart ops oj && nbox kd oj.op)
      | none => true))

def freeA (kd : Op → OKd) (md : Region.Mode) (ops : Array Oper) (listed : Array Bool) (i : Nat) : Bool :=
  match ops[i]? with
  | none => false
  | some oi => pureOp kd oi.op && (List.range ops.size).all fun j => j == i || listed.getD j true || match ops[j]? with
      | some oj => oj.after.any (fun e => Region.binds md e && e.on == i) || (oi.apart ops oj && (!readsH kd oi.op || keepsH kd oj.op))
      | none => true

/-- The order in which the region may be walked: the first list's operations are free to come first, the second list's are forced. -/
def ordT (ops : Array Oper) : List Nat → Array Bool → Bool
  | i :: tail, listed => (Region.ready .any ops listed == [i]) && ordT ops tail (listed.setIfInBounds i true)
  | [], listed => (Region.ready .any ops listed).isEmpty
def ordB (kd : Op → OKd) (ops : Array Oper) : List Nat → List Nat → Array Bool → Bool
  | i :: order, tail, listed => (Region.ready .any ops listed).contains i && (freeA kd .any ops listed i || freeN kd .any ops listed i) && ordB kd ops order tail (listed.setIfInBounds i true)
  | [], tail, listed => ordT ops tail listed

/-- The walk in that order. -/
def aord (P : Program) (kd : Op → OKd) (all : List Oper) : List Nat → (St → Prop) → St → Prop
  | [], K, s => K s
  | i :: rest, K, s => match all[i]? with
    | none => False
    | some o => (match o.guard with
      | none => (match o.dst with
        | some d => adop P kd s o.op fun r s' => aord P kd all rest K (s'.set d r)
        | none => adop P kd s o.op fun _ s' => aord P kd all rest K s')
      | some (j, want) => (match o.dst, (all[j]?).bind (·.dst) with
        | some d, some g => (match s.t g with
          | .one (.d (.v (.bool b))) => (b = want → adop P kd (s.set g (.one (.d (.v (.bool want))))) o.op fun r s' => aord P kd all rest K (s'.set d r)) ∧
              (b = !want → aord P kd all rest K ((s.set g (.one (.d (.v (.bool (!want)))))).set d (.tup [])))
          | .tup [] => aord P kd all rest K (s.set d (.tup []))
          | _ => False)
        | _, _ => False))

theorem set_self (s : St) (g : Nat) (r : A) (h : s.t g = r) : s.set g r = s := by
  simp only [St.set]
  have : upd s.t g r = s.t := by
    funext k
    by_cases hk : k = g
    · subst hk; simp [h]
    · rw [upd_ne _ _ _ _ hk]
  rw [this]

theorem aord_qA {P : Program} {kd : Op → OKd} {ops : Array Oper} {i : Nat} {rest : List Nat} {K : St → Prop} {s : St} (h : aord P kd ops.toList (i :: rest) K s) : qA P kd ops i (aord P kd ops.toList rest K) s := by
  unfold aord at h
  unfold qA
  rw [Array.getElem?_toList] at h
  split at h
  · exact h.elim
  · rename_i o ho
    try simp only []
    split at h
    · rename_i hg
      have hw : awanted ops.toList o s = some true := by simp [awanted, hg]
      simp only [hw]
      split at h
      · rename_i d hd; rw [hd]; exact h
      · rename_i hd; rw [hd]; exact h
    · rename_i j want hg
      split at h
      · rename_i d g hd hgd
        split at h
        · rename_i b hb
          have hw : awanted ops.toList o s = some (b == want) := by unfold awanted; rw [hg]; simp only []; rw [hgd]; simp only []; rw [hb]
          simp only [hw, hd]
          by_cases hbw : b = want
          · subst hbw
            have := h.1 rfl
            rw [set_self _ _ _ hb] at this
            simpa using this
          · have hbn : b = !want := by cases b <;> cases want <;> simp_all
            have := h.2 hbn
            rw [set_self s g _ (by rw [hb, hbn])] at this
            have hf : (b == want) = false := by simpa using hbw
            simpa [hf] using this
        · rename_i hb
          have hw : awanted ops.toList o s = some false := by unfold awanted; rw [hg]; simp only []; rw [hgd]; simp only []; rw [hb]
          simp only [hw, hd]
          exact h
        · exact h.elim
      · exact h.elim

theorem wpAnyA_ord {P : Program} {kd : Op → OKd} {ops : Array Oper} {K : St → Prop} : ∀ (order tail : List Nat) (listed : Array Bool) (s : St), ordB kd ops order tail listed = true → aord P kd ops.toList (order ++ tail) K s → wpAnyA P kd .any ops K (order.length + tail.length) listed s
  | [], [], listed, s, hB, h => ⟨by simpa [ordB, ordT] using hB, h⟩
  | [], i :: tail, listed, s, hB, h => by
    simp only [ordB, ordT, Bool.and_eq_true, beq_iff_eq] at hB
    refine ⟨fun h0 => by rw [hB.1] at h0; simp at h0, fun j hj => ?_⟩
    rw [hB.1] at hj
    have hji : j = i := by simpa using hj
    subst hji
    refine qA_mono (fun s' h' => ?_) (aord_qA h)
    have := wpAnyA_ord [] tail _ s' hB.2 h'
    simpa using this
  | i :: order, tail, listed, s, hB, h => by
    simp only [ordB, Bool.and_eq_true] at hB
    obtain ⟨⟨hr, hf⟩, hB'⟩ := hB
    have hq := aord_qA (ops := ops) (i := i) (rest := order ++ tail) h
    have e : (i :: order).length + tail.length = (order.length + tail.length) + 1 := by simp; omega
    cases hfa : freeA kd .any ops listed i with
    | false =>
      rw [hfa, Bool.false_or] at hf
      unfold freeN at hf
      split at hf
      · cases hf
      · rename_i oi hi
        simp only [Bool.and_eq_true] at hf
        obtain ⟨hop, hg, hds, hf⟩ := hf
        split at hop
        · rename_i ty hty
          split at hop
          · rename_i hkd
            obtain ⟨d, hd⟩ := Option.isSome_iff_exists.1 hds
            have hg : oi.guard = none := by simpa using hg
            have hw : awanted ops.toList oi s = some true := by simp [awanted, hg]
            unfold qA at hq
            simp only [hi, hw, hty, hd] at hq
            unfold adop at hq
            rw [hkd] at hq
            rcases hq with hq | hq
            · unfold aop0 at hq
              simp only [] at hq
              unfold aAlloc at hq
              split at hq
              · rename_i cs hz
                have := wpAnyA_ord order tail _ _ hB' hq
                rw [e]
                refine wpAnyA_alloc hi hty hkd hg hd hz _ listed s (fun j oj hj hne hun hno => ?_) (by simpa using hr) this
                have h1 := (List.all_eq_true.1 hf) j (List.mem_range.2 (Array.getElem?_eq_some_iff.1 hj).1)
                simp only [hj, Bool.or_eq_true, beq_iff_eq, hne, false_or, hun, Bool.false_eq_true] at h1
                rcases h1 with h1 | h1
                · obtain ⟨e, he, hb⟩ := Array.any_eq_true'.1 h1
                  simp only [Bool.and_eq_true, beq_iff_eq] at hb
                  exact absurd hb.2 (hno e he hb.1)
                · simpa only [Bool.and_eq_true] using h1
              · exact hq.elim
            · exact hq.elim
          · cases hop
        · cases hop
    | true =>
    replace hf := hfa
    unfold freeA at hf
    split at hf
    · cases hf
    · rename_i oi hi
      simp only [Bool.and_eq_true] at hf
      obtain ⟨hp, hf⟩ := hf
      obtain ⟨r, hy, hk⟩ := YP.of_qA hi hp hq
      have := wpAnyA_ord order tail _ _ hB' hk
      rw [e]
      refine wpAnyA_first hi hp _ listed s (fun j oj hj hne hun hno => ?_) (by simpa using hr) hy this
      have h1 := (List.all_eq_true.1 hf) j (List.mem_range.2 (Array.getElem?_eq_some_iff.1 hj).1)
      simp only [hj, Bool.or_eq_true, beq_iff_eq, hne, false_or, hun, Bool.false_eq_true] at h1
      rcases h1 with h1 | h1
      · obtain ⟨e, he, hb⟩ := Array.any_eq_true'.1 h1
        simp only [Bool.and_eq_true, beq_iff_eq] at hb
        exact absurd hb.2 (hno e he hb.1)
      · simp only [Bool.and_eq_true, Bool.or_eq_true, Bool.not_eq_true'] at h1
        exact ⟨h1.1, fun hrd => h1.2.resolve_left (by rw [hrd]; simp)⟩

/-- The walk of a region whose order is open. -/
theorem ADraw.of {P : Program} {kd : Op → OKd} {id : Nat} {ops : Array Oper} {K : St → Prop} {s : St} (order tail : List Nat) (hm : P.follows .mixedOrders = true)
    (hB : (ordB kd ops order tail (Array.replicate ops.size false) && (order.length + tail.length == ops.size)) = true) (hd : (ops.toList.all fun o => match o.dst with | some d => decide (d < s.m) | none => true) = true)
    (h : aord P kd ops.toList (order ++ tail) K s) : ADraw P id ops K s := by
  refine ⟨fun x a w hx hr => ?_⟩
  simp only [Bool.and_eq_true, beq_iff_eq] at hB
  have hg : RepSt P x s a w.drew := hr.grew (Grew.drew w)
  refine wp_region_any hm ?_
  have := wpAnyA_ord order tail _ s hB.1 h
  rw [hB.2] at this
  refine wpAnyA_sound hx (m := s.m) (fun o ho d hdd => ?_) (fun s' a' w' h1 h2 h3 => ⟨s', h1, ⟨rfl, h2⟩, h3⟩) _ _ s a _ hg rfl this
  have := (List.all_eq_true.1 hd) o (by simpa using ho)
  simpa [hdd] using this

end Go.Av
