/-
  Two ways to sort: both stable, so both give the same. Plain lists only.
-/
import Derived.Test.YtnfbgleaodkjpaaHtBase
import Derived.Test.YtnfbgleaodkjpaaHtDropC
set_option linter.all false
set_option linter.unusedSimpArgs false
namespace Go.Av

theorem bl_tri : ∀ a b : List UInt8, Op.bytesLess a b = false → Op.bytesLess b a = false → a = b
  | [], [], _, _ => rfl
  | [], _ :: _, h, _ => by simp [Op.bytesLess] at h
  | _ :: _, [], _, h => by simp [Op.bytesLess] at h
  | x :: xs, y :: ys, h, k => by
    simp only [Op.bytesLess] at h k
    by_cases h1 : x < y
    · simp [h1] at h
    · by_cases h2 : y < x
      · simp [h2] at k
      · have hxy : x = y := by
          have a1 : ¬ x.toNat < y.toNat := fun h => h1 (UInt8.lt_iff_toNat_lt.2 h)
          have a2 : ¬ y.toNat < x.toNat := fun h => h2 (UInt8.lt_iff_toNat_lt.2 h)
          exact UInt8.toNat_inj.1 (by omega)
        subst hxy
        simp [h1] at h k
        rw [bl_tri xs ys h k]
theorem bl_asymm : ∀ a b : List UInt8, Op.bytesLess a b = true → Op.bytesLess b a = false
  | [], [], h => by simp [Op.bytesLess] at h
  | [], _ :: _, _ => by simp [Op.bytesLess]
  | _ :: _, [], h => by simp [Op.bytesLess] at h
  | x :: xs, y :: ys, h => by
    simp only [Op.bytesLess] at h ⊢
    by_cases h1 : x < y
    · have h2 : ¬ y < x := fun h => by rw [UInt8.lt_iff_toNat_lt] at h h1; omega
      have h3 : ¬ y = x := fun h => by subst h; exact absurd h1 (by rw [UInt8.lt_iff_toNat_lt]; omega)
      simp [h2, h3]
    · by_cases h2 : x = y
      · subst h2
        simp [h1] at h ⊢
        exact bl_asymm xs ys h
      · simp [h1, h2] at h
theorem bl_trans : ∀ a b c : List UInt8, Op.bytesLess a b = true → Op.bytesLess b c = true → Op.bytesLess a c = true
  | [], [], _, h, _ => by simp [Op.bytesLess] at h
  | _ :: _, [], _, h, _ => by simp [Op.bytesLess] at h
  | _, _ :: _, [], _, h => by simp [Op.bytesLess] at h
  | [], _ :: _, _ :: _, _, _ => by simp [Op.bytesLess]
  | x :: xs, y :: ys, z :: zs, h, k => by
    simp only [Op.bytesLess] at h k ⊢
    by_cases h1 : x < y
    · by_cases h2 : y < z
      · have : x < z := by rw [UInt8.lt_iff_toNat_lt] at *; omega
        simp [this]
      · by_cases h3 : y = z
        · subst h3; simp [h1]
        · simp [h2, h3] at k
    · by_cases h2 : x = y
      · subst h2
        simp [h1] at h
        by_cases h3 : x < z
        · simp [h3]
        · by_cases h4 : x = z
          · subst h4
            simp [h3] at k ⊢
            exact bl_trans xs ys zs h k
          · simp [h3, h4] at k
      · simp [h1, h2] at h
theorem bl_irrefl (a : List UInt8) : Op.bytesLess a a = false := by
  cases h : Op.bytesLess a a
  · rfl
  · have := bl_asymm a a h; rw [h] at this; cases this
theorem cmpB_lt : ∀ a b : List UInt8, (Lib.compareBytes a b < 0) ↔ Op.bytesLess a b = true
  | [], [] => by simp [Lib.compareBytes, Op.bytesLess]
  | [], _ :: _ => by simp [Lib.compareBytes, Op.bytesLess]
  | _ :: _, [] => by simp [Lib.compareBytes, Op.bytesLess]
  | x :: xs, y :: ys => by
    simp only [Lib.compareBytes, Op.bytesLess]
    by_cases h1 : x < y
    · simp [h1]
    · by_cases h2 : y < x
      · have h3 : ¬ x = y := fun h => by subst h; exact h1 h2
        simp [h1, h2, h3]
      · have hxy : x = y := by
          have a1 : ¬ x.toNat < y.toNat := fun h => h1 (UInt8.lt_iff_toNat_lt.2 h)
          have a2 : ¬ y.toNat < x.toNat := fun h => h2 (UInt8.lt_iff_toNat_lt.2 h)
          exact UInt8.toNat_inj.1 (by omega)
        subst hxy
        simp only [h1, if_false, decide_false, Bool.false_or, beq_self_eq_true, Bool.true_and]
        exact cmpB_lt xs ys

section sort
variable {α : Type} (key : α → List UInt8)
/-- Before, by the key. -/
def klt (a b : α) : Bool := Op.bytesLess (key a) (key b)
theorem klt_trans {a b c : α} (h : klt key a b = true) (k : klt key b c = true) : klt key a c = true := bl_trans _ _ _ h k
theorem klt_le {a b c : α} (h : klt key a b = true) (k : klt key c b = false) : klt key a c = true := by
  cases h2 : klt key b c
  · have := bl_tri (key b) (key c) h2 k
    unfold klt at h ⊢; rw [← this]; exact h
  · exact klt_trans key h h2
theorem le_klt {a b c : α} (h : klt key b a = false) (k : klt key b c = true) : klt key a c = true := by
  cases h2 : klt key a b
  · have := bl_tri (key a) (key b) h2 h
    unfold klt at k ⊢; rw [this]; exact k
  · exact klt_trans key h2 k
theorem klt_asymm {a b : α} (h : klt key a b = true) : klt key b a = false := bl_asymm _ _ h
def Srt (l : List α) : Prop := l.Pairwise fun a b => klt key b a = false

/-- Of one key. -/
def ofK (v : List UInt8) (l : List α) : List α := l.filter fun a => decide (key a = v)

/-- What is sorted, and has the same elements of each key, is the same. -/
theorem srt_unique : ∀ (a b : List α), Srt key a → Srt key b → (∀ v, ofK key v a = ofK key v b) → a = b
  | [], [], _, _, _ => rfl
  | [], y :: b, _, _, h => by have := h (key y); simp [ofK] at this
  | x :: a, [], _, _, h => by have := h (key x); simp [ofK] at this
  | x :: a, y :: b, h1, h2, h => by
    have hx : x ∈ y :: b := by
      have : x ∈ ofK key (key x) (x :: a) := by simp [ofK]
      rw [h] at this
      exact (List.mem_filter.1 this).1
    have hy : y ∈ x :: a := by
      have : y ∈ ofK key (key y) (y :: b) := by simp [ofK]
      rw [← h] at this
      exact (List.mem_filter.1 this).1
    unfold Srt at h1 h2
    rw [List.pairwise_cons] at h1 h2
    have k1 : klt key x y = false := by
      rcases List.mem_cons.1 hx with e | e
      · rw [e]; exact bl_irrefl _
      · exact h2.1 x e
    have k2 : klt key y x = false := by
      rcases List.mem_cons.1 hy with e | e
      · rw [e]; exact bl_irrefl _
      · exact h1.1 y e
    have hk : key x = key y := bl_tri _ _ k1 k2
    have hxy : x = y ∧ ofK key (key x) a = ofK key (key x) b := by
      have := h (key x)
      simpa [ofK, hk] using this
    obtain ⟨rfl, _⟩ := hxy
    congr 1
    refine srt_unique a b h1.2 h2.2 fun v => ?_
    have := h v
    unfold ofK at this ⊢
    by_cases hv : key x = v
    · simpa [hv] using this
    · simpa [hv] using this

/-! By insertion. -/
def insR (x : α) : List α → List α
  | [] => [x]
  | y :: ys => if klt key x y = true then y :: insR x ys else x :: y :: ys
def insP (s : List α) (x : α) : List α := (insR key x s.reverse).reverse
def sortP (t : List α) : List α := t.foldl (insP key) []
theorem insR_mem (x a : α) : ∀ l : List α, a ∈ insR key x l ↔ a = x ∨ a ∈ l
  | [] => by simp [insR]
  | y :: ys => by
    rw [insR]
    split
    · rw [List.mem_cons, insR_mem x a ys, List.mem_cons, ← or_assoc, ← or_assoc, or_comm (a := a = y)]
    · simp
theorem insR_len (x : α) : ∀ l : List α, (insR key x l).length = l.length + 1
  | [] => rfl
  | y :: ys => by
    rw [insR]
    split
    · simp [insR_len x ys]
    · simp
theorem insR_srt (x : α) : ∀ l : List α, (l.Pairwise fun a b => klt key a b = false) → (insR key x l).Pairwise fun a b => klt key a b = false
  | [], _ => by simp [insR]
  | y :: ys, h => by
    rw [insR]
    rw [List.pairwise_cons] at h
    split
    · rename_i hlt
      rw [List.pairwise_cons]
      refine ⟨fun b hb => ?_, insR_srt x ys h.2⟩
      rcases (insR_mem key x b ys).1 hb with rfl | hb
      · exact klt_asymm key hlt
      · exact h.1 b hb
    · rename_i hlt
      have hlt' : klt key x y = false := by simpa using hlt
      rw [List.pairwise_cons]
      refine ⟨fun b hb => ?_, List.pairwise_cons.2 h⟩
      rcases List.mem_cons.1 hb with rfl | hb
      · exact hlt'
      · cases hc : klt key x b
        · rfl
        · have := le_klt key hlt' hc
          rw [h.1 b hb] at this; cases this
theorem insR_ofK (v : List UInt8) (x : α) : ∀ l : List α, ofK key v (insR key x l) = ofK key v (x :: l)
  | [] => rfl
  | y :: ys => by
    rw [insR]
    split
    · rename_i hlt
      have ih := insR_ofK v x ys
      have hne : key x ≠ key y := fun e => by unfold klt at hlt; rw [e, bl_irrefl] at hlt; cases hlt
      unfold ofK at ih ⊢
      rw [List.filter_cons, ih]
      simp only [List.filter_cons]
      by_cases h1 : key x = v
      · have h2 : ¬ key y = v := fun e => hne (h1.trans e.symm)
        simp [h1, h2]
      · simp [h1]
    · rfl
theorem insP_len (s : List α) (x : α) : (insP key s x).length = s.length + 1 := by simp [insP, insR_len]
theorem insP_srt (s : List α) (x : α) (h : Srt key s) : Srt key (insP key s x) := by
  unfold insP Srt
  rw [List.pairwise_reverse]
  exact insR_srt key x _ (List.pairwise_reverse.2 h)
theorem insP_ofK (v : List UInt8) (s : List α) (x : α) : ofK key v (insP key s x) = ofK key v (s ++ [x]) := by
  unfold insP
  have h := insR_ofK key v x s.reverse
  unfold ofK at h ⊢
  rw [List.filter_reverse, h, ← List.filter_reverse]
  simp
theorem sortP_snoc (t : List α) (x : α) : sortP key (t ++ [x]) = insP key (sortP key t) x := by simp [sortP]
theorem foldl_ins (t : List α) : ∀ s : List α, Srt key s → Srt key (t.foldl (insP key) s) ∧ (∀ v, ofK key v (t.foldl (insP key) s) = ofK key v (s ++ t)) ∧ (t.foldl (insP key) s).length = s.length + t.length := by
  induction t with
  | nil => intro s h; exact ⟨h, fun v => by simp, rfl⟩
  | cons x t ih =>
    intro s h
    obtain ⟨h1, h2, h3⟩ := ih (insP key s x) (insP_srt key s x h)
    refine ⟨h1, fun v => ?_, ?_⟩
    · rw [List.foldl_cons, h2 v]
      have := insP_ofK key v s x
      unfold ofK at this ⊢
      rw [List.filter_append, this, ← List.filter_append, List.append_assoc]
      rfl
    · rw [List.foldl_cons, h3, insP_len, List.length_cons]; omega
theorem sortP_srt (t : List α) : Srt key (sortP key t) := (foldl_ins key t [] (by simp [Srt])).1
theorem sortP_ofK (t : List α) (v : List UInt8) : ofK key v (sortP key t) = ofK key v t := (foldl_ins key t [] (by simp [Srt])).2.1 v
theorem sortP_len (t : List α) : (sortP key t).length = t.length := by
  have := (foldl_ins key t [] (by simp [Srt])).2.2
  simpa [sortP] using this
theorem sortP_mem (t : List α) (a : α) : a ∈ sortP key t ↔ a ∈ t := by
  have h := sortP_ofK key t (key a)
  constructor
  · intro ha
    have : a ∈ ofK key (key a) (sortP key t) := by simp [ofK, ha]
    rw [h] at this
    exact (List.mem_filter.1 this).1
  · intro ha
    have : a ∈ ofK key (key a) t := by simp [ofK, ha]
    rw [← h] at this
    exact (List.mem_filter.1 this).1

/-! By exchanges. -/
def bp (x : α) : List α → List α
  | [] => [x]
  | y :: r => if klt key y x = true then y :: bp x r else x :: bp y r
def bpass : List α → List α
  | [] => []
  | x :: r => bp key x r
theorem bp_len : ∀ (l : List α) (x : α), (bp key x l).length = l.length + 1
  | [], _ => rfl
  | y :: r, x => by
    rw [bp]
    split
    · simp [bp_len r x]
    · simp [bp_len r y]
theorem bpass_len (l : List α) : (bpass key l).length = l.length := by
  cases l with
  | nil => rfl
  | cons x r => simp [bpass, bp_len]
theorem bp_ofK (v : List UInt8) : ∀ (l : List α) (x : α), ofK key v (bp key x l) = ofK key v (x :: l)
  | [], _ => rfl
  | y :: r, x => by
    rw [bp]
    split
    · rename_i hlt
      have ih := bp_ofK v r x
      have hne : key y ≠ key x := fun e => by unfold klt at hlt; rw [e, bl_irrefl] at hlt; cases hlt
      unfold ofK at ih ⊢
      rw [List.filter_cons, ih]
      simp only [List.filter_cons]
      by_cases h1 : key x = v
      · have h2 : ¬ key y = v := fun e => hne (e.trans h1.symm)
        simp [h1, h2]
      · simp [h1]
    · have ih := bp_ofK v r y
      unfold ofK at ih ⊢
      rw [List.filter_cons, ih]
      simp only [List.filter_cons]
theorem bpass_ofK (v : List UInt8) (l : List α) : ofK key v (bpass key l) = ofK key v l := by
  cases l with
  | nil => rfl
  | cons x r => exact bp_ofK key v r x
theorem bp_sorted : ∀ (v : List α) (x : α), Srt key v → (∀ b ∈ v, klt key b x = false) → bp key x v = x :: v
  | [], _, _, _ => rfl
  | y :: r, x, h, hx => by
    unfold Srt at h
    rw [List.pairwise_cons] at h
    rw [bp, hx y (List.mem_cons_self ..)]
    simp only [Bool.false_eq_true, if_false]
    rw [bp_sorted r y h.2 fun b hb => h.1 b hb]
theorem bp_max : ∀ (u : List α) (x : α), ∃ ub m, (∀ v : List α, Srt key v → (∀ b ∈ v, klt key b m = false) → bp key x (u ++ v) = ub ++ m :: v) ∧ ub.length = u.length ∧ (m = x ∨ m ∈ u) ∧ klt key m x = false ∧ (∀ a ∈ ub, klt key m a = false) ∧ ∀ a ∈ ub, a = x ∨ a ∈ u
  | [], x => ⟨[], x, fun v h hx => bp_sorted key v x h hx, rfl, .inl rfl, bl_irrefl _, by simp, by simp⟩
  | y :: r, x => by
    cases hlt : klt key y x
    · obtain ⟨ub, m, h1, h2, h3, h4, h5, h6⟩ := bp_max r y
      refine ⟨x :: ub, m, fun v hv hm => ?_, by simp [h2], ?_, ?_, fun a ha => ?_, fun a ha => ?_⟩
      · rw [List.cons_append, bp, hlt]
        simp only [Bool.false_eq_true, if_false]
        rw [h1 v hv hm]; rfl
      · rcases h3 with rfl | h3
        · exact .inr (List.mem_cons_self ..)
        · exact .inr (List.mem_cons_of_mem _ h3)
      · cases hc : klt key m x
        · rfl
        · have := klt_le key hc hlt
          rw [h4] at this; cases this
      · rcases List.mem_cons.1 ha with rfl | ha
        · cases hc : klt key m a
          · rfl
          · have := klt_le key hc hlt
            rw [h4] at this; cases this
        · exact h5 a ha
      · rcases List.mem_cons.1 ha with rfl | ha
        · exact .inl rfl
        · rcases h6 a ha with rfl | h
          · exact .inr (List.mem_cons_self ..)
          · exact .inr (List.mem_cons_of_mem _ h)
    · obtain ⟨ub, m, h1, h2, h3, h4, h5, h6⟩ := bp_max r x
      refine ⟨y :: ub, m, fun v hv hm => ?_, by simp [h2], ?_, h4, fun a ha => ?_, fun a ha => ?_⟩
      · rw [List.cons_append, bp, hlt]
        simp only [if_true]
        rw [h1 v hv hm]; rfl
      · rcases h3 with rfl | h3
        · exact .inl rfl
        · exact .inr (List.mem_cons_of_mem _ h3)
      · rcases List.mem_cons.1 ha with rfl | ha
        · cases hc : klt key m a
          · rfl
          · have := klt_trans key hc hlt
            rw [h4] at this; cases this
        · exact h5 a ha
      · rcases List.mem_cons.1 ha with rfl | ha
        · exact .inr (List.mem_cons_self ..)
        · rcases h6 a ha with rfl | h
          · exact .inl rfl
          · exact .inr (List.mem_cons_of_mem _ h)
/-- The last ones are where they belong. -/
def Upto (p : Nat) (l : List α) : Prop := ∃ u v, l = u ++ v ∧ u.length = l.length - p ∧ Srt key v ∧ ∀ a ∈ u, ∀ b ∈ v, klt key b a = false
theorem Upto.pass {p : Nat} {l : List α} (h : Upto key p l) : Upto key (p + 1) (bpass key l) := by
  obtain ⟨u, v, rfl, h2, h3, h4⟩ := h
  cases u with
  | nil =>
    have : bpass key v = v := by
      cases v with
      | nil => rfl
      | cons x r =>
        unfold Srt at h3
        rw [List.pairwise_cons] at h3
        exact bp_sorted key r x h3.2 h3.1
    rw [List.nil_append] at h2 ⊢
    rw [this]
    refine ⟨[], v, rfl, ?_, h3, by simp⟩
    simp only [List.length_nil] at h2 ⊢
    omega
  | cons x u =>
    obtain ⟨ub, m, g1, g2, g3, g4, g5, g6⟩ := bp_max key u x
    have hm : m ∈ x :: u := by rcases g3 with rfl | g3; exact List.mem_cons_self ..; exact List.mem_cons_of_mem _ g3
    have e : bpass key (x :: u ++ v) = ub ++ m :: v := g1 v h3 fun b hb => h4 m hm b hb
    rw [e]
    refine ⟨ub, m :: v, rfl, ?_, ?_, fun a ha b hb => ?_⟩
    · simp only [List.length_append, List.length_cons] at h2 ⊢; omega
    · unfold Srt at h3 ⊢
      rw [List.pairwise_cons]
      exact ⟨fun b hb => h4 m hm b hb, h3⟩
    · rcases List.mem_cons.1 hb with rfl | hb
      · exact g5 a ha
      · refine h4 a ?_ b hb
        rcases g6 a ha with rfl | h
        · exact List.mem_cons_self ..
        · exact List.mem_cons_of_mem _ h
def bubN : Nat → List α → List α
  | 0, l => l
  | n + 1, l => bubN n (bpass key l)
theorem bubN_facts : ∀ (n p : Nat) (l : List α), Upto key p l → Upto key (p + n) (bubN key n l) ∧ (∀ v, ofK key v (bubN key n l) = ofK key v l) ∧ (bubN key n l).length = l.length
  | 0, p, l, h => ⟨h, fun v => rfl, rfl⟩
  | n + 1, p, l, h => by
    obtain ⟨h1, h2, h3⟩ := bubN_facts n (p + 1) (bpass key l) (h.pass key)
    refine ⟨by rw [show p + (n + 1) = p + 1 + n by omega]; exact h1, fun v => ?_, ?_⟩
    · rw [bubN, h2 v, bpass_ofK]
    · rw [bubN, h3, bpass_len]
theorem bubN_sort (l : List α) : bubN key l.length l = sortP key l := by
  have h0 : Upto key 0 l := ⟨l, [], by simp, by simp, by simp [Srt], by simp⟩
  obtain ⟨h1, h2, h3⟩ := bubN_facts key l.length 0 l h0
  refine srt_unique key _ _ ?_ (sortP_srt key l) fun v => by rw [h2 v, sortP_ofK]
  obtain ⟨u, v, e, e2, e3, _⟩ := h1
  have : u = [] := List.eq_nil_of_length_eq_zero (by omega)
  rw [e, this]; exact e3
end sort

theorem insR_map {α β : Type} (key : β → List UInt8) (g : α → β) (x : α) : ∀ l : List α, (insR (fun a => key (g a)) x l).map g = insR key (g x) (l.map g)
  | [] => rfl
  | y :: ys => by
    rw [insR, List.map_cons, insR]
    show (if klt key (g x) (g y) = true then _ else _ : List α).map g = _
    split
    · rw [List.map_cons, insR_map key g x ys]
    · rfl
theorem foldl_map' {α β : Type} (key : β → List UInt8) (g : α → β) : ∀ (l s : List α), (l.foldl (insP (fun a => key (g a))) s).map g = (l.map g).foldl (insP key) (s.map g)
  | [], s => rfl
  | x :: l, s => by
    rw [List.foldl_cons, List.map_cons, List.foldl_cons, foldl_map' key g l]
    congr 1
    unfold insP
    rw [List.map_reverse, insR_map, List.map_reverse]
theorem sortP_map {α β : Type} (key : β → List UInt8) (g : α → β) (l : List α) : (sortP (fun a => key (g a)) l).map g = sortP key (l.map g) := foldl_map' key g l []
end Go.Av

set_option linter.unusedSimpArgs false
namespace Go.Av

theorem strings_Compare_spec (a b : Txt) (n : Nat) (hn : 1 ≤ n) : (O0 n).Φ i_strings_Compare [aS a, aS b] = some (aI (Lib.compareBytes a b)) := by
  obtain ⟨m, rfl⟩ := nat_succ (n := n) (k := 0) (by omega)
  rw [strings_Compare_run, strings_Compare]
  have : (O0 m).Φ i_internal_bytealg_CompareString [aS a, aS b] = some (aI (Lib.compareBytes a b)) := by
    cases m <;> rfl
  simp only [this, Option.bind_some, xAD_d, xDI_v]

/-- A row and the cell it lies in. -/
abbrev CR := C × Row
/-- A block of rows: the cells of a list, the heap else as it was. -/
structure Blk (H0 : Hp) (k : Nat) (b : Bool) (nc : Nat) (H : Hp) (L : List CR) : Prop where
  lt : k < H0.length
  eq : H = H0.set k (some ⟨L.map (·.1), b⟩)
  row : ∀ p ∈ L, RdR H0 p.1 p.2 ∧ p.1.hid ≠ some k ∧ p.2.length = nc
theorem Blk.get {H0 : Hp} {k : Nat} {b : Bool} {nc : Nat} {H : Hp} {L : List CR} (h : Blk H0 k b nc H L) : hGet H k = some ⟨L.map (·.1), b⟩ := by rw [h.eq]; exact hGet_set_self h.lt _
theorem Blk.other {H0 : Hp} {k : Nat} {b : Bool} {nc : Nat} {H : Hp} {L : List CR} (h : Blk H0 k b nc H L) {j : Nat} (hj : j ≠ k) : hGet H j = hGet H0 j := by rw [h.eq]; exact hGet_set_ne hj _
theorem Blk.rd {H0 : Hp} {k : Nat} {b : Bool} {nc : Nat} {H : Hp} {L : List CR} (h : Blk H0 k b nc H L) (p : CR) (hp : p ∈ L) : RdR H p.1 p.2 := by
  obtain ⟨h1, h2, _⟩ := h.row p hp
  exact h1.keep fun q hq => h.other fun e => h2 (by rw [← e]; exact hq)
theorem hAddr_hs (k off n i : Nat) (h : i < n) : hAddr (.hs k off n) (i : Int) = some (.hp k (off + i)) := by
  simp only [hAddr]; rw [if_pos (by omega)]; simp
theorem Blk.load {H0 : Hp} {k : Nat} {b : Bool} {nc : Nat} {H : Hp} {L : List CR} (h : Blk H0 k b nc H L) (i : Nat) (hi : i < L.length) : hLoad H (.hp k i) = some L[i].1 := by
  simp only [hLoad, h.get, Option.bind_some]; simp [hi]
theorem rpl_one {α : Type} (cs : List α) (i : Nat) (hi : i < cs.length) (z : α) : rpl cs i [z] = cs.set i z := by
  apply List.ext_getElem?
  intro j
  rw [getElem?_rpl _ _ _ (by simp; omega), List.getElem?_set]
  by_cases h : i = j
  · subst h; simp [hi]
  · rw [if_neg h]
    split
    · rfl
    · split
      · rename_i u1 u2; simp only [List.length_singleton] at u2; omega
      · rfl
/-- Two neighbours exchanged: first the one behind put in front. -/
theorem swap_two {H : Hp} {k : Nat} {b : Bool} {s r : List C} {x y : C} (h : hGet H k = some ⟨s ++ x :: y :: r, b⟩) (hx : x.hok = true) (hy : y.hok = true) :
    ∃ H1, hStore H (.hp k s.length) y = some H1 ∧ hStore H1 (.hp k (s.length + 1)) x = some (H.set k (some ⟨s ++ y :: x :: r, b⟩)) := by
  have hkl := hGet_lt h
  refine ⟨H.set k (some ⟨s ++ y :: y :: r, b⟩), ?_, ?_⟩
  · simp only [hStore, h, Option.bind_some]
    rw [if_pos ⟨by simp, hy⟩, rpl_one _ _ (by simp), List.set_append, if_neg (by omega), Nat.sub_self, List.set_cons_zero]
  · simp only [hStore, hGet_set_self hkl, Option.bind_some]
    rw [if_pos ⟨by simp, hx⟩, rpl_one _ _ (by simp), List.set_append, if_neg (by omega), show s.length + 1 - s.length = 1 by omega, List.set_set]
    rfl
theorem swap_two' {H : Hp} {k : Nat} {b : Bool} {s r : List C} {x y : C} (h : hGet H k = some ⟨s ++ x :: y :: r, b⟩) (hx : x.hok = true) (hy : y.hok = true) :
    ∃ H1, hStore H (.hp k (s.length + 1)) x = some H1 ∧ hStore H1 (.hp k s.length) y = some (H.set k (some ⟨s ++ y :: x :: r, b⟩)) := by
  have hkl := hGet_lt h
  refine ⟨H.set k (some ⟨s ++ x :: x :: r, b⟩), ?_, ?_⟩
  · simp only [hStore, h, Option.bind_some]
    rw [if_pos ⟨by simp, hx⟩, rpl_one _ _ (by simp), List.set_append, if_neg (by omega), show s.length + 1 - s.length = 1 by omega]
    rfl
  · simp only [hStore, hGet_set_self hkl, Option.bind_some]
    rw [if_pos ⟨by simp, hy⟩, rpl_one _ _ (by simp), List.set_append, if_neg (by omega), Nat.sub_self, List.set_set, List.set_cons_zero]
theorem Blk.upd {H0 : Hp} {k : Nat} {b : Bool} {nc : Nat} {H : Hp} {L L' : List CR} (h : Blk H0 k b nc H L) (hm : ∀ p ∈ L', p ∈ L) : Blk H0 k b nc (H.set k (some ⟨L'.map (·.1), b⟩)) L' :=
  ⟨h.lt, by rw [h.eq, List.set_set], fun p hp => h.row p (hm p hp)⟩
/-- As blocks of rows are read as tables. -/
theorem Blk.tab {H0 : Hp} {k : Nat} {b : Bool} {nc : Nat} {H : Hp} {L : List CR} (h : Blk H0 k b nc H L) : RdT H (.hs k 0 L.length) (L.map (·.2)) := by
  refine .inr (.inr ⟨k, 0, _, by simp, h.get, by simp, fun i r hr => ?_⟩)
  rw [List.getElem?_map, Option.map_eq_some_iff] at hr
  obtain ⟨p, hp, rfl⟩ := hr
  refine ⟨p.1, by simp [hp], h.rd p (List.mem_of_getElem? hp)⟩
theorem MuT.blk {n : Nat} {x : Nat → Option Bool} {H : Hp} {c : C} {t : Tab} (h : MuT n x H c t) (hn : 0 < t.length) (nc : Nat) (hc : ∀ r ∈ t, r.length = nc) :
    ∃ k b L, n ≤ k ∧ c = .hs k 0 t.length ∧ L.map (·.2) = t ∧ Blk H k b nc H L := by
  rcases h with ⟨rfl, _⟩ | ⟨k, cs, b, h1, h2, h3, h4, h5, _⟩
  · simp at hn
  · refine ⟨k, b, cs.zip t, h1, h2, List.map_snd_zip (by omega), hGet_lt h3, ?_, fun p hp => ?_⟩
    · rw [List.map_fst_zip (by omega), hset_self h3]
    · obtain ⟨i, hi, hp⟩ := List.getElem_of_mem hp
      have hi1 : i < cs.length := by simp at hi; omega
      have hi2 : i < t.length := by simp at hi; omega
      obtain ⟨rc, g1, g2, g3, _⟩ := h5 i _ (List.getElem?_eq_getElem hi2)
      rw [List.getElem?_eq_getElem hi1] at g1
      simp only [Option.some.injEq] at g1
      rw [List.getElem_zip] at hp
      rw [← hp]
      exact ⟨by rw [g1]; exact g2.rd, by rw [g1]; exact g3, hc _ (List.getElem_mem hi2)⟩

def keyC (col : Nat) (r : Row) : Txt := r.getD col []
theorem keyC_at {r : Row} {col : Nat} (h : col < r.length) : r[col] = keyC col r := by simp [keyC, h]

/-- One comparison. -/
theorem tables_Sort_1_Ψ {H : Hp} {k3 col : Nat} {ex : Bool} {c1 c2 : C} {r1 r2 : Row} (h3 : hGet H k3 = some ⟨[.d (.v (.int .i64 col))], ex⟩) (h1 : RdR H c1 r1) (h2 : RdR H c2 r2) (l1 : col < r1.length) (l2 : col < r2.length) (n : Nat) (hn : 2 ≤ n) :
    (O0 n).Ψ i_tables_Sort_1 [.one c1, .one c2, .one (.hp k3 0)] H = some (aI (Lib.compareBytes (keyC col r1) (keyC col r2)), H) := by
  obtain ⟨m, rfl⟩ := nat_succ (n := n) (k := 0) (by omega)
  rw [tables_Sort_1_runH]
  obtain ⟨p1, a1, a2⟩ := h1.at col l1
  obtain ⟨p2, b1, b2⟩ := h2.at col l2
  have hl : hLoad H (.hp k3 0) = some (.d (.v (.int .i64 col))) := by simp only [hLoad, h3, Option.bind_some]; rfl
  rw [keyC_at l1] at a2
  rw [keyC_at l2] at b2
  have hok : ∀ z : Int, xokR (aI z) = true := fun _ => rfl
  simp only [tables_Sort_1, hl, Option.bind_some, xI_i, a1, a2, xS_s, b1, b2, strings_Compare_spec _ _ m (by omega), xAD_d, xDI_v, hok, xif_tt]

def kCR (col : Nat) (p : CR) : Txt := keyC col p.2

theorem insertion_gen {H0 : Hp} {k : Nat} {b : Bool} {nc col k3 : Nat} {ex : Bool} {H : Hp} {L : List CR} (h : Blk H0 k b nc H L) (h3 : hGet H0 k3 = some ⟨[.d (.v (.int .i64 col))], ex⟩) (hk3 : k3 ≠ k) (hcol : col < nc) (hl : L.length ≤ 1000) (hl1 : 1 ≤ L.length) (n : Nat) (hn : 2 ≤ n) (f : Nat) (hf : 1001 < f) :
    ∃ H', slices_insertionSortCmpFunc_string (O0 n).Φ (O0 n).Ψ f (.hs k 0 L.length) 0 (L.length : Int) k3 H = some (.tup [], H') ∧ Blk H0 k b nc H' (sortP (kCR col) L) := by
  have hok : C.hok (.hs k 0 L.length) = true := rfl
  have hokr : xokR (.tup []) = true := rfl
  have w0 : IntKind.i64.wrap ((0 : Int) + 1) = ((1 : Nat) : Int) := wrap_i _ (by omega) (by omega)
  simp only [slices_insertionSortCmpFunc_string, hok, xif_tt, w0]
  have key := iter_ex (R := A × Hp) L.length (fun i (x : Hp × C × Int × Int × Nat × Int × Unit) => ∃ H1, x = (H1, .hs k 0 L.length, (0 : Int), (L.length : Int), k3, (i : Int), ()) ∧ 1 ≤ i ∧ Blk H0 k b nc H1 (sortP (kCR col) (L.take i) ++ L.drop i)) (fun p => ∃ H', p = (.tup [], H') ∧ Blk H0 k b nc H' (sortP (kCR col) L))
    (F := fun (x : Hp × C × Int × Int × Nat × Int × Unit) (rec : (Hp × C × Int × Int × Nat × Int × Unit) → Option (A × Hp)) => slices_insertionSortCmpFunc_string_l0 (O0 n).Φ (O0 n).Ψ f (fun H5 data6 a7 b8 k9 i10 => rec (H5, data6, a7, b8, k9, i10, ())) x.1 x.2.1 x.2.2.1 x.2.2.2.1 x.2.2.2.2.1 x.2.2.2.2.2.1)
    (fun i x rec hi hx hrec => by
      obtain ⟨H1, rfl, hi1, hb⟩ := hx
      by_cases hlt : i < L.length
      · have hw := wrap_i (i + 1) (by omega) (by omega)
        have hlt' : (i : Int) < L.length := by omega
        simp only [slices_insertionSortCmpFunc_string_l0, xite_decide, hlt', if_true, hok, xif_tt]
        have hS : sortP (kCR col) (L.take (i + 1)) = insP (kCR col) (sortP (kCR col) (L.take i)) L[i] := by rw [List.take_succ_eq_append_getElem hlt, sortP_snoc]
        have hSl : (sortP (kCR col) (L.take i)).length = i := by rw [sortP_len]; simp; omega
        refine iter_ex (R := A × Hp) i (fun q (x : Hp × C × Int × Int × Nat × Int × Int × Unit) => ∃ H1 u v, x = (H1, .hs k 0 L.length, (0 : Int), (L.length : Int), k3, (i : Int), (u.length : Int), ()) ∧ u.length + q = i ∧ Blk H0 k b nc H1 (u ++ L[i] :: v) ∧ (insR (kCR col) L[i] u.reverse).reverse ++ v = sortP (kCR col) (L.take (i + 1)) ++ L.drop (i + 1)) _
          (fun q x rec2 hq hx hrec2 => by
            obtain ⟨H1, u, v, rfl, hu, hb, htar⟩ := hx
            have hlen : (u ++ L[i] :: v).length = L.length := by
              have := congrArg List.length htar
              simp only [List.length_append, List.length_reverse, insR_len, List.length_drop, sortP_len, List.length_take] at this
              simp only [List.length_append, List.length_cons]; omega
            rcases List.eq_nil_or_concat u with rfl | ⟨u', y, rfl⟩
            · have h0 : ¬ (0 : Int) < (([] : List CR).length : Int) := by simp
              simp only [slices_insertionSortCmpFunc_string_l1, xite_decide, h0, if_false, hok, xif_tt, hw]
              refine hrec _ hlt ⟨H1, rfl, by omega, ?_⟩
              rw [← htar]; exact hb
            · rw [List.concat_eq_append] at *
              have hul : ((u' ++ [y]).length : Int) = ((u'.length + 1 : Nat) : Int) := by simp
              have h0 : (0 : Int) < ((u'.length + 1 : Nat) : Int) := by omega
              have hwj : IntKind.i64.wrap (((u'.length + 1 : Nat) : Int) - 1) = ((u'.length : Nat) : Int) := by rw [wrap_i _ (by omega) (by simp at hu; omega)]; omega
              have hbl : u' ++ [y] ++ L[i] :: v = u' ++ y :: L[i] :: v := by simp
              rw [hbl] at hb hlen
              have ha1 := hAddr_hs k 0 L.length (u'.length + 1) (by rw [← hlen]; simp)
              have ha2 := hAddr_hs k 0 L.length u'.length (by rw [← hlen]; simp)
              rw [Nat.zero_add] at ha1 ha2
              have hl1 : hLoad H1 (.hp k (u'.length + 1)) = some L[i].1 := by rw [hb.load _ (by simp)]; simp
              have hl2 : hLoad H1 (.hp k u'.length) = some y.1 := by rw [hb.load _ (by simp)]; simp
              have hry := hb.rd y (by simp)
              have hri := hb.rd L[i] (by simp)
              have hly := (hb.row y (by simp)).2.2
              have hli := (hb.row L[i] (by simp)).2.2
              have hg3 : hGet H1 k3 = some ⟨[.d (.v (.int .i64 col))], ex⟩ := by rw [hb.other hk3]; exact h3
              have hcmp := tables_Sort_1_Ψ hg3 hri hry (by omega) (by omega) n hn
              have hlt2 := cmpB_lt (keyC col L[i].2) (keyC col y.2)
              simp only [slices_insertionSortCmpFunc_string_l1, hul, xite_decide, h0, if_true, ha1, hl1, hwj, ha2, hl2, Option.bind_some, hri.hok, hry.hok, xif_tt, hcmp, xone_one, xI_i]
              by_cases hc : Lib.compareBytes (keyC col L[i].2) (keyC col y.2) < 0
              · have hk : klt (kCR col) L[i] y = true := hlt2.1 hc
                obtain ⟨H2, s1, s2⟩ := swap_two' (s := u'.map (·.1)) (r := v.map (·.1)) (x := y.1) (y := L[i].1) (by have := hb.get; simpa using this) hry.hok hri.hok
                rw [List.length_map] at s1 s2
                have hb2 := hb.upd (L' := u' ++ L[i] :: y :: v) (fun p hp => by
                  simp only [List.mem_append, List.mem_cons] at hp ⊢
                  rcases hp with h | h | h | h
                  · exact .inl h
                  · exact .inr (.inr (.inl h))
                  · exact .inr (.inl h)
                  · exact .inr (.inr (.inr h)))
                have e2 : (u' ++ L[i] :: y :: v).map (·.1) = u'.map (·.1) ++ L[i].1 :: y.1 :: v.map (·.1) := by simp
                rw [e2] at hb2
                simp only [hc, if_true, s1, s2, Option.bind_some, hok, xif_tt]
                refine hrec2 _ (by simp at hu; omega) ⟨_, u', y :: v, rfl, by simp at hu; omega, hb2, ?_⟩
                rw [← htar]
                simp only [List.reverse_append, List.reverse_cons, List.reverse_nil, List.nil_append, List.cons_append, insR, hk, if_true, List.append_assoc]
              · have hk : klt (kCR col) L[i] y ≠ true := fun e => hc (hlt2.2 e)
                simp only [hc, if_false, hok, xif_tt, hw]
                refine hrec _ hlt ⟨H1, rfl, by omega, ?_⟩
                rw [← htar]
                have : (insR (kCR col) L[i] (u' ++ [y]).reverse).reverse ++ v = u' ++ y :: L[i] :: v := by
                  simp only [List.reverse_append, List.reverse_cons, List.reverse_nil, List.nil_append, List.cons_append, insR, hk, Bool.false_eq_true, if_false, List.reverse_reverse, List.append_assoc]
                rw [this]; exact hb) f 0 (H1, .hs k 0 L.length, (0 : Int), (L.length : Int), k3, (i : Int), (i : Int), ()) (by omega) (by omega) ⟨H1, sortP (kCR col) (L.take i), L.drop (i + 1), by rw [hSl], by rw [hSl]; omega, by rw [← drop_some L i hlt]; exact hb, by rw [hS]; rfl⟩
      · have hlt' : ¬ (i : Int) < L.length := by omega
        rw [List.take_of_length_le (by omega), List.drop_of_length_le (by omega), List.append_nil] at hb
        simp only [slices_insertionSortCmpFunc_string_l0, xite_decide, hlt', if_false, hokr, xif_tt]
        exact ⟨_, rfl, H1, rfl, hb⟩) f 1 (H, .hs k 0 L.length, (0 : Int), (L.length : Int), k3, ((1 : Nat) : Int), ()) (by omega) (by omega) ⟨H, rfl, Nat.le_refl _, by
      match L, hl1, h with
      | p :: L, _, h => exact h⟩
  obtain ⟨_, hr, H', rfl, h1⟩ := key
  exact ⟨H', hr, h1⟩
end Go.Av

set_option linter.unusedSimpArgs false
namespace Go.Av

def sortF (t : Tab) (i : Int) : Tab × Int :=
  if chk t ≠ 0 then ([], chk t) else if plc i (cols t) < 0 then ([], 7) else (sortP (keyC (plc i (cols t)).toNat) t, 0)

theorem stable_Ψ {H0 : Hp} {k : Nat} {b : Bool} {nc col k3 : Nat} {ex : Bool} {H : Hp} {L : List CR} (h : Blk H0 k b nc H L) (h3 : hGet H0 k3 = some ⟨[.d (.v (.int .i64 col))], ex⟩) (hk3 : k3 ≠ k) (hcol : col < nc) (hl : L.length ≤ 8) (hl1 : 1 ≤ L.length) (n : Nat) (hn : 1100 ≤ n) :
    ∃ H', (O0 n).Ψ i_slices_SortStableFunc_string_string [.one (.hs k 0 L.length), .one (.hclo 66 [k3])] H = some (.tup [], H') ∧ Blk H0 k b nc H' (sortP (kCR col) L) := by
  obtain ⟨n3, rfl⟩ : ∃ m, n = m + 3 := ⟨n - 3, by omega⟩
  obtain ⟨H', e1, e2⟩ := insertion_gen h h3 hk3 hcol (by omega) hl1 n3 (by omega) n3 (by omega)
  refine ⟨H', ?_, e2⟩
  have hok : C.hok (.hs k 0 L.length) = true := rfl
  have hokr : xokR (.tup []) = true := rfl
  have hL : hLen (.hs k 0 L.length) = some L.length := rfl
  have e1' : (O0 (n3 + 1)).Ψ i_slices_insertionSortCmpFunc_string [.one (.hs k 0 L.length), aI 0, aI (L.length : Int), .one (.hclo 66 [k3])] H = some (.tup [], H') := by
    rw [slices_insertionSortCmpFunc_string_runH]; exact e1
  have c1 : ¬ (20 : Int) ≤ (L.length : Int) := by omega
  have c2 : ¬ (20 : Int) < (L.length : Int) := by omega
  have e3 : (O0 (n3 + 2)).Ψ i_slices_stableCmpFunc_string [.one (.hs k 0 L.length), aI (L.length : Int), .one (.hclo 66 [k3])] H = some (.tup [], H') := by
    rw [slices_stableCmpFunc_string_runH]
    simp only [slices_stableCmpFunc_string, hok, xif_tt, iter, slices_stableCmpFunc_string_l0, xite_decide, c1, if_false, e1', Option.bind_some]
    obtain ⟨n4, rfl⟩ := nat_succ (n := n3) (k := 0) (by omega)
    simp only [iter, slices_stableCmpFunc_string_l1, xite_decide, c2, if_false, hokr, xif_tt]
  rw [slices_SortStableFunc_string_string_runH]
  simp only [slices_SortStableFunc_string_string, hL, Option.bind_some, hok, xif_tt, e3, hokr]

theorem sort_snd (col : Nat) (L : List CR) : (sortP (kCR col) L).map (·.2) = sortP (keyC col) (L.map (·.2)) := sortP_map (keyC col) (fun p : CR => p.2) L

theorem tables_Sort_gen (t : Tab) (i : Int) (n : Nat) (hn : 1101 ≤ n) (f : Nat) :
    ∃ c H', tables_Sort (O0 n).Φ (O0 n).Ψ f (tD t) i [] = some (.tup [.one c, aI (sortF t i).2], H') ∧ RdT H' c (sortF t i).1 := by
  have hst : ∀ a b : Int, hStore [some ⟨[.d (.v (.int .i64 a))], true⟩] (.hp 0 0) (.d (.v (.int .i64 b))) = some [some ⟨[.d (.v (.int .i64 b))], true⟩] := fun a b => rfl
  have hld : ∀ a : Int, hLoad [some ⟨[.d (.v (.int .i64 a))], true⟩] (.hp 0 0) = some (.d (.v (.int .i64 a))) := fun a => rfl
  simp only [tables_Sort, hPush, List.nil_append, List.length_nil, tables_Check_spec t n (by omega), Option.bind_some, xAD_d, xDI_v, xite_decide, xite_not, sortF]
  by_cases h0 : chk t = 0
  · have la := chk_len h0
    have hrows := chk_row h0
    have hcols := chk_cols h0
    simp only [h0, if_true, ne_eq, not_true, if_false, hld, xI_i, tables_columns_spec t n (by omega), tables_place_spec i (cols t) (by omega) n (by omega), Option.bind_some, xAD_d, xDI_v, hst]
    by_cases h1 : plc i (cols t) < 0
    · simp only [h1, if_true]
      exact ⟨_, _, rfl, .inr (.inl ⟨rfl, rfl⟩)⟩
    · obtain ⟨k, hk, hkl⟩ := plc_nat h1
      have h1' : ¬ (k : Int) < 0 := by omega
      have htl : 0 < t.length := by
        cases t with
        | nil => simp [cols] at hkl
        | cons r t => simp
      rw [hk]
      obtain ⟨c, H1, e1, m1, x1⟩ := tables_clone_Ψ t (by omega) (fun r hr => by have := hrows r hr; omega) [some ⟨[.d (.v (.int .i64 k))], true⟩] n (by omega)
      obtain ⟨kb, b, L, g1, rfl, g3, g4⟩ := m1.blk htl (cols t) (fun r hr => (hrows r hr).2.2.1)
      have hLl : L.length = t.length := by rw [← g3]; simp
      have h3 : hGet H1 0 = some ⟨[.d (.v (.int .i64 k))], true⟩ := by rw [x1.2 0 (by simp)]; rfl
      obtain ⟨H2, e2, m2⟩ := stable_Ψ g4 h3 (by simp at g1; omega) hkl (by omega) (by omega) n (by omega)
      have hres := m2.tab
      rw [sort_snd, g3, sortP_len, hLl] at hres
      rw [hLl] at e2
      have hok : C.hok (.hs kb 0 t.length) = true := rfl
      have hokr : xokR (.tup [.one (.hs kb 0 t.length), aI 0]) = true := rfl
      simp only [h1', if_false, e1, xone_one, Option.bind_some, hok, xif_tt, e2, hokr, Int.toNat_natCast]
      exact ⟨_, _, rfl, hres⟩
  · simp only [h0, if_false, ne_eq, not_false_eq_true, if_true]
    exact ⟨_, _, rfl, .inr (.inl ⟨rfl, rfl⟩)⟩
theorem tables_Sort_spec (t : Tab) (i : Int) (n : Nat) (hn : 1102 ≤ n) : (O0 n).Φ i_tables_Sort [aT t, aI i] = some (two (aT (sortF t i).1) (aI (sortF t i).2)) := by
  obtain ⟨m, rfl⟩ := nat_succ (n := n) (k := 0) (by omega)
  obtain ⟨c', H', h1, h2⟩ := tables_Sort_gen t i m (by omega) m
  rw [tables_Sort_run, h1, Option.bind_some]
  simp only [xlowR, xlowRs, h2.low 1, Option.bind_some]
  rfl

/-! The specification's: as many passes as rows. -/
theorem bubN_succ' {α : Type} (key : α → List UInt8) : ∀ (n : Nat) (l : List α), bubN key (n + 1) l = bpass key (bubN key n l)
  | 0, _ => rfl
  | n + 1, l => by rw [bubN, bubN_succ' key n]; rfl
theorem bubN_len {α : Type} (key : α → List UInt8) (n : Nat) (l : List α) : (bubN key n l).length = l.length := by
  induction n generalizing l with
  | zero => rfl
  | succ n ih => rw [bubN, ih, bpass_len]

theorem ref08_sort_loop {H0 : Hp} {k : Nat} {b : Bool} {nc col : Nat} {H : Hp} {L : List CR} (h : Blk H0 k b nc H L) (hcol : col < nc) (hl : L.length ≤ 8) (hl1 : 1 ≤ L.length) (Φ : Phi) (Ψ : Psi) (f : Nat) (hf : 1001 < f) :
    ∃ H', iter (fun (x : Hp × Int × C × Int × Unit) (rec : (Hp × Int × C × Int × Unit) → Option (A × Hp)) => ref08_Sort_l0 Φ Ψ f (fun H14 k15 out16 n17 => rec (H14, k15, out16, n17, ())) x.1 x.2.1 x.2.2.1 x.2.2.2.1) f (H, (col : Int), .hs k 0 L.length, (0 : Int), ()) = some (.tup [.one (.hs k 0 L.length), aI 0], H') ∧ Blk H0 k b nc H' (sortP (kCR col) L) := by
  have hok : C.hok (.hs k 0 L.length) = true := rfl
  have hokr : xokR (.tup [.one (.hs k 0 L.length), aI 0]) = true := rfl
  have hL : hLen (.hs k 0 L.length) = some L.length := rfl
  have key := iter_ex (R := A × Hp) L.length (fun i (x : Hp × Int × C × Int × Unit) => ∃ H1, x = (H1, (col : Int), .hs k 0 L.length, (i : Int), ()) ∧ Blk H0 k b nc H1 (bubN (kCR col) i L)) (fun p => ∃ H', p = (.tup [.one (.hs k 0 L.length), aI 0], H') ∧ Blk H0 k b nc H' (sortP (kCR col) L))
    (F := fun (x : Hp × Int × C × Int × Unit) (rec : (Hp × Int × C × Int × Unit) → Option (A × Hp)) => ref08_Sort_l0 Φ Ψ f (fun H14 k15 out16 n17 => rec (H14, k15, out16, n17, ())) x.1 x.2.1 x.2.2.1 x.2.2.2.1)
    (fun i x rec hi hx hrec => by
      obtain ⟨H1, rfl, hb⟩ := hx
      by_cases hlt : i < L.length
      · have hw := wrap_i (i + 1) (by omega) (by omega)
        have hlt' : (i : Int) < (L.length : Nat) := by omega
        simp only [ref08_Sort_l0, hL, Option.bind_some, xite_decide, hlt', if_true, hok, xif_tt]
        have hbl : (bubN (kCR col) i L).length = L.length := bubN_len _ _ _
        have htarl : (bubN (kCR col) (i + 1) L).length = L.length := bubN_len _ _ _
        refine iter_ex (R := A × Hp) L.length (fun q (x : Hp × Int × C × Int × Int × Unit) => ∃ H1 s x0 r, x = (H1, (col : Int), .hs k 0 L.length, (i : Int), ((s.length + 1 : Nat) : Int), ()) ∧ s.length + 1 = q ∧ Blk H0 k b nc H1 (s ++ x0 :: r) ∧ s ++ bp (kCR col) x0 r = bubN (kCR col) (i + 1) L) _
          (fun q x rec2 hq hx hrec2 => by
            obtain ⟨H1, s, x0, r, rfl, hsq, hb, htar⟩ := hx
            have hlen : (s ++ x0 :: r).length = L.length := by
              have := congrArg List.length htar
              simp only [List.length_append, bp_len] at this
              simp only [List.length_append, List.length_cons]; omega
            cases r with
            | nil =>
              have h0 : ¬ ((s.length + 1 : Nat) : Int) < (L.length : Nat) := by simp at hlen; omega
              simp only [ref08_Sort_l1, hL, Option.bind_some, xite_decide, h0, if_false, hok, xif_tt, hw]
              exact hrec _ hlt ⟨H1, rfl, by rw [← htar]; exact hb⟩
            | cons y r =>
              have h0 : ((s.length + 1 : Nat) : Int) < (L.length : Nat) := by simp at hlen; omega
              have hwj : IntKind.i64.wrap (((s.length + 1 : Nat) : Int) - 1) = ((s.length : Nat) : Int) := by rw [wrap_i _ (by omega) (by simp at hlen; omega)]; omega
              have hwk : IntKind.i64.wrap (((s.length + 1 : Nat) : Int) + 1) = ((s.length + 1 + 1 : Nat) : Int) := by rw [wrap_i _ (by omega) (by simp at hlen; omega)]; omega
              have ha1 := hAddr_hs k 0 L.length (s.length + 1) (by rw [← hlen]; simp)
              have ha2 := hAddr_hs k 0 L.length s.length (by rw [← hlen]; simp)
              rw [Nat.zero_add] at ha1 ha2
              have hl1 : hLoad H1 (.hp k (s.length + 1)) = some y.1 := by rw [hb.load _ (by simp)]; simp
              have hl2 : hLoad H1 (.hp k s.length) = some x0.1 := by rw [hb.load _ (by simp)]; simp
              have hrx := hb.rd x0 (by simp)
              have hry := hb.rd y (by simp)
              have hlx := (hb.row x0 (by simp)).2.2
              have hly := (hb.row y (by simp)).2.2
              obtain ⟨p1, a1, a2⟩ := hrx.at col (by omega)
              obtain ⟨p2, b1, b2⟩ := hry.at col (by omega)
              rw [keyC_at (by omega)] at a2
              rw [keyC_at (by omega)] at b2
              simp only [ref08_Sort_l1, hL, Option.bind_some, xite_decide, h0, if_true, hwj, ha2, hl2, a1, a2, xS_s, ha1, hl1, b1, b2]
              have hgt : (!(Op.bytesLess (keyC col x0.2) (keyC col y.2) || decide (keyC col x0.2 = keyC col y.2))) = klt (kCR col) y x0 := by
                unfold klt kCR
                cases h1 : Op.bytesLess (keyC col y.2) (keyC col x0.2)
                · cases h2 : Op.bytesLess (keyC col x0.2) (keyC col y.2)
                  · have := bl_tri _ _ h2 h1; simp [this]
                  · simp
                · have h2 := bl_asymm _ _ h1
                  have h3 : ¬ keyC col x0.2 = keyC col y.2 := fun e => by rw [e, bl_irrefl] at h1; cases h1
                  simp [h2, h3]
              rw [hgt]
              cases hc : klt (kCR col) y x0
              · simp only [xite_false, hok, xif_tt, hwk]
                refine hrec2 _ (by simp at hlen; omega) ⟨H1, s ++ [x0], y, r, by simp, by simp; omega, by simpa using hb, ?_⟩
                rw [← htar, bp, hc]
                simp
              · obtain ⟨H2, s1, s2⟩ := swap_two (s := s.map (·.1)) (r := r.map (·.1)) (x := x0.1) (y := y.1) (by have := hb.get; simpa using this) hrx.hok hry.hok
                rw [List.length_map] at s1 s2
                have hb2 := hb.upd (L' := s ++ y :: x0 :: r) (fun p hp => by
                  simp only [List.mem_append, List.mem_cons] at hp ⊢
                  rcases hp with h | h | h | h
                  · exact .inl h
                  · exact .inr (.inr (.inl h))
                  · exact .inr (.inl h)
                  · exact .inr (.inr (.inr h)))
                have e2 : (s ++ y :: x0 :: r).map (·.1) = s.map (·.1) ++ y.1 :: x0.1 :: r.map (·.1) := by simp
                rw [e2] at hb2
                simp only [xite_true, hok, xif_tt, hwk, s1, s2, Option.bind_some]
                refine hrec2 _ (by simp at hlen; omega) ⟨H1.set k (some ⟨s.map (·.1) ++ y.1 :: x0.1 :: r.map (·.1), b⟩), s ++ [y], x0, r, by simp, by simp; omega, by rw [List.append_assoc]; exact hb2, ?_⟩
                rw [← htar, bp, hc]
                simp) f 1 (H1, (col : Int), .hs k 0 L.length, (i : Int), (1 : Int), ()) (by omega) (by omega) ?_
        rw [bubN_succ']
        generalize hq : bubN (kCR col) i L = B at hb hbl
        cases B with
        | nil => simp at hbl; omega
        | cons x0 r => exact ⟨H1, [], x0, r, rfl, rfl, hb, rfl⟩
      · have hlt' : ¬ (i : Int) < (L.length : Nat) := by omega
        obtain rfl : i = L.length := by omega
        rw [bubN_sort] at hb
        simp only [ref08_Sort_l0, hL, Option.bind_some, xite_decide, hlt', if_false, hokr, xif_tt]
        exact ⟨_, rfl, H1, rfl, hb⟩) f 0 (H, (col : Int), .hs k 0 L.length, (0 : Int), ()) (by omega) (by omega) ⟨H, rfl, h⟩
  obtain ⟨_, hr, H', rfl, h1⟩ := key
  exact ⟨H', hr, h1⟩

theorem ref08_Sort_gen (t : Tab) (i : Int) (n : Nat) (hn : 1101 ≤ n) (f : Nat) (hf : 1001 < f) :
    ∃ c H', ref08_Sort (O0 n).Φ (O0 n).Ψ f (tD t) i [] = some (.tup [.one c, aI (sortF t i).2], H') ∧ RdT H' c (sortF t i).1 := by
  simp only [ref08_Sort, ref08_Check_spec t n (by omega), Option.bind_some, xAD_d, xDI_v, xite_decide, xite_not, sortF]
  by_cases h0 : chk t = 0
  · have la := chk_len h0
    have hrows := chk_row h0
    have hcols := chk_cols h0
    simp only [h0, if_true, ne_eq, not_true, if_false, ref08_Columns_spec t n (by omega), ref08_index_spec i (cols t) (by omega) n (by omega), Option.bind_some, xAD_d, xDI_v]
    by_cases h1 : plc i (cols t) < 0
    · simp only [h1, if_true]
      exact ⟨_, _, rfl, .inr (.inl ⟨rfl, rfl⟩)⟩
    · obtain ⟨k, hk, hkl⟩ := plc_nat h1
      have h1' : ¬ (k : Int) < 0 := by omega
      have htl : 0 < t.length := by
        cases t with
        | nil => simp [cols] at hkl
        | cons r t => simp
      rw [hk]
      obtain ⟨c, H1, e1, _, m1, x1⟩ := ref08_table_muΨ (RdT.data [] t) (by omega) (fun r hr => by have := hrows r hr; omega) n (by omega)
      obtain ⟨kb, b, L, g1, rfl, g3, g4⟩ := m1.blk htl (cols t) (fun r hr => (hrows r hr).2.2.1)
      have hLl : L.length = t.length := by rw [← g3]; simp
      obtain ⟨H2, e2, m2⟩ := ref08_sort_loop g4 hkl (by omega) (by omega) (O0 n).Φ (O0 n).Ψ f hf
      have hres := m2.tab
      rw [sort_snd, g3, sortP_len, hLl] at hres
      rw [hLl] at e2
      have hok : C.hok (.hs kb 0 t.length) = true := rfl
      simp only [h1', if_false, e1, xone_one, Option.bind_some, hok, xif_tt, e2, Int.toNat_natCast]
      exact ⟨_, _, rfl, hres⟩
  · simp only [h0, if_false, ne_eq, not_false_eq_true, if_true]
    exact ⟨_, _, rfl, .inr (.inl ⟨rfl, rfl⟩)⟩
theorem ref08_Sort_spec (t : Tab) (i : Int) (n : Nat) (hn : 1102 ≤ n) : (O0 n).Φ i_ref08_Sort [aT t, aI i] = some (two (aT (sortF t i).1) (aI (sortF t i).2)) := by
  obtain ⟨m, rfl⟩ := nat_succ (n := n) (k := 0) (by omega)
  obtain ⟨c', H', h1, h2⟩ := ref08_Sort_gen t i m (by omega) m (by omega)
  rw [ref08_Sort_run, h1, Option.bind_some]
  simp only [xlowR, xlowRs, h2.low 1, Option.bind_some]
  rfl

theorem sortF_shp (t : Tab) (i : Int) : (sortF t i).1.length ≤ 1000 ∧ ∀ r ∈ (sortF t i).1, r.length ≤ 1000 := by
  unfold sortF
  by_cases h0 : chk t = 0
  · have := chk_len h0
    simp only [h0, ne_eq, not_true, if_false]
    split
    · simp
    · refine ⟨by show (sortP _ t).length ≤ 1000; rw [sortP_len]; omega, fun r hr => ?_⟩
      have := chk_row h0 r ((sortP_mem _ t r).1 hr); omega
  · simp [h0]

theorem tablesDrops_spec (t : Tab) (i : Int) (n : Nat) (hn : 1300 ≤ n) : (O0 n).Φ i_law08_TablesDrops [aT t, aI i] = some (aB true) := by
  obtain ⟨m, rfl⟩ := nat_succ (n := n) (k := 0) (by omega)
  rw [law08_TablesDrops_run]
  have e0 := awake_spec m (by omega)
  have e1 := ref08_Same_spec (dropRowF t i).1 (dropRowF t i).1 (dropRowF_shp t i).1 (dropRowF_shp t i).2 m (by omega)
  have e2 := ref08_Same_spec (dropColF t i).1 (dropColF t i).1 (dropColF_shp t i).1 (dropColF_shp t i).2 m (by omega)
  have e3 := ref08_Same_spec (sortF t i).1 (sortF t i).1 (sortF_shp t i).1 (sortF_shp t i).2 m (by omega)
  simp only [law08_TablesDrops, small_spec t m (by omega), Option.bind_some, xAD_d, xDB_v, xite_not]
  cases smallT t
  · simp only [xite_false, e0, Option.bind_some, xAD_d, xDB_v]
  · simp only [xite_true, tables_DropRow_spec t i m (by omega), ref08_DropRow_spec t i m (by omega), tables_DropColumn_spec t i m (by omega), ref08_DropColumn_spec t i m (by omega), tables_Sort_spec t i m (by omega), ref08_Sort_spec t i m (by omega), Option.bind_some, xtup_tup, List.getElem?_cons_zero, List.getElem?_cons_succ, xAD_d, xDL_sl, xDI_v, xDB_v, e1, e2, e3, e0, xite_decide, xite_true, if_true, decide_true]
end Go.Av
