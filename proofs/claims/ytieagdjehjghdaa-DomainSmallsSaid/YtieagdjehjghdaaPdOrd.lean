/-
  The order of values: total, antisymmetric, transitive. Plain data only.
-/
import Derived.Test.YtieagdjehjghdaaPdVal3
set_option linter.all false
namespace Go.Av

theorem bytesLess_tri : ∀ a b : List UInt8, Op.bytesLess a b = false → Op.bytesLess b a = false → a = b
  | [], [], _, _ => rfl
  | [], _ :: _, h, _ => by simp [Op.bytesLess] at h
  | _ :: _, [], _, h => by simp [Op.bytesLess] at h
  | x :: xs, y :: ys, h, k => by
    simp only [Op.bytesLess] at h k
    by_cases h1 : x < y
    · simp [h1] at h
    · by_cases h2 : y < x
      · simp [h2] at k
      · have hxy : x = y := by
          have a1 : ¬ x.toNat < y.toNat := fun h => h1 (UInt8.lt_iff_toNat_lt.2 h)
          have a2 : ¬ y.toNat < x.toNat := fun h => h2 (UInt8.lt_iff_toNat_lt.2 h)
          exact UInt8.toNat_inj.1 (by omega)
        subst hxy
        simp [h1] at h k
        rw [bytesLess_tri xs ys h k]
theorem bytesLess_asymm : ∀ a b : List UInt8, Op.bytesLess a b = true → Op.bytesLess b a = false
  | [], [], h => by simp [Op.bytesLess] at h
  | [], _ :: _, _ => by simp [Op.bytesLess]
  | _ :: _, [], h => by simp [Op.bytesLess] at h
  | x :: xs, y :: ys, h => by
    simp only [Op.bytesLess] at h ⊢
    by_cases h1 : x < y
    · have h2 : ¬ y < x := fun h => by rw [UInt8.lt_iff_toNat_lt] at h h1; omega
      have h3 : ¬ y = x := fun h => by subst h; exact absurd h1 (by rw [UInt8.lt_iff_toNat_lt]; omega)
      simp [h2, h3]
    · by_cases h2 : x = y
      · subst h2
        simp [h1] at h ⊢
        exact bytesLess_asymm xs ys h
      · simp [h1, h2] at h
theorem bytesLess_trans : ∀ a b c : List UInt8, Op.bytesLess a b = true → Op.bytesLess b c = true → Op.bytesLess a c = true
  | [], [], _, h, _ => by simp [Op.bytesLess] at h
  | _ :: _, [], _, h, _ => by simp [Op.bytesLess] at h
  | _, _ :: _, [], _, h => by simp [Op.bytesLess] at h
  | [], _ :: _, _ :: _, _, _ => by simp [Op.bytesLess]
  | x :: xs, y :: ys, z :: zs, h, k => by
    simp only [Op.bytesLess] at h k ⊢
    by_cases h1 : x < y
    · by_cases h2 : y < z
      · have : x < z := by rw [UInt8.lt_iff_toNat_lt] at *; omega
        simp [this]
      · by_cases h3 : y = z
        · subst h3; simp [h1]
        · simp [h2, h3] at k
    · by_cases h2 : x = y
      · subst h2
        simp [h1] at h
        by_cases h3 : x < z
        · simp [h3]
        · by_cases h4 : x = z
          · subst h4
            simp [h3] at k ⊢
            exact bytesLess_trans xs ys zs h k
          · simp [h3, h4] at k
      · simp [h1, h2] at h

theorem GV.eq_of (a b : GV) (h1 : a.ty = b.ty) (h2 : a.num = b.num) (h3 : a.text = b.text) (h4 : a.items = b.items) : a = b := by
  cases a; cases b; simp_all

/-- What holds of the order at a value. -/
structure Ordd (a : GV) : Prop where
  range : ∀ b, a.cmp b = -1 ∨ a.cmp b = 0 ∨ a.cmp b = 1
  swap : ∀ b : GV, b.cmp a = - a.cmp b
  zero : ∀ b, a.cmp b = 0 → a = b
  self : a.cmp a = 0
theorem cmpL_facts (xs : List GV) (h : ∀ x ∈ xs, Ordd x) : (∀ ys, GV.cmpL xs ys = -1 ∨ GV.cmpL xs ys = 0 ∨ GV.cmpL xs ys = 1) ∧ (∀ ys, GV.cmpL ys xs = - GV.cmpL xs ys) ∧ (∀ ys, GV.cmpL xs ys = 0 → xs = ys) ∧ GV.cmpL xs xs = 0 := by
  induction xs with
  | nil =>
    refine ⟨fun ys => ?_, fun ys => ?_, fun ys h => ?_, by simp [GV.cmpL]⟩ <;> cases ys <;> simp_all [GV.cmpL]
  | cons x xs ih =>
    obtain ⟨i1, i2, i3, i4⟩ := ih fun y hy => h y (List.mem_cons_of_mem _ hy)
    have hx := h x (List.mem_cons_self ..)
    refine ⟨fun ys => ?_, fun ys => ?_, fun ys h => ?_, by simp [GV.cmpL, hx.self, i4]⟩
    · cases ys with
      | nil => simp [GV.cmpL]
      | cons y ys =>
        rw [GV.cmpL]
        split
        · exact hx.range y
        · exact i1 ys
    · cases ys with
      | nil => simp [GV.cmpL]
      | cons y ys =>
        rw [GV.cmpL, GV.cmpL, hx.swap y]
        by_cases hz : x.cmp y = 0
        · rw [hz]; simp; exact i2 ys
        · rw [if_pos (by omega), if_pos hz]
    · cases ys with
      | nil => simp [GV.cmpL] at h
      | cons y ys =>
        rw [GV.cmpL] at h
        split at h
        · contradiction
        · rename_i hz
          rw [hx.zero y (by simpa using hz), i3 ys h]
theorem ordd (a : GV) : Ordd a := by
  refine GV.ind (fun a ih => ?_) a
  obtain ⟨i1, i2, i3, i4⟩ := cmpL_facts a.items ih
  refine ⟨fun b => ?_, fun b => ?_, fun b h => ?_, ?_⟩
  · rw [GV.cmp_eq]
    (repeat' split) <;> first | (simp; done) | exact i1 _
  · rw [GV.cmp_eq, GV.cmp_eq]
    by_cases h1 : a.ty = b.ty
    · by_cases h2 : a.num = b.num
      · by_cases h3 : a.text = b.text
        · simp [h1, h2, h3, i2]
        · have h3' : ¬ b.text = a.text := fun h => h3 h.symm
          simp only [h1, h2, h3, h3', ne_eq, not_true, not_false_eq_true, if_true, if_false]
          cases hb : Op.bytesLess a.text b.text
          · cases hb' : Op.bytesLess b.text a.text
            · exact absurd (bytesLess_tri _ _ hb hb') h3
            · simp
          · rw [bytesLess_asymm _ _ hb]; simp
      · have h2' : ¬ b.num = a.num := fun h => h2 h.symm
        simp only [h1, h2, h2', ne_eq, not_true, not_false_eq_true, if_true, if_false]
        by_cases h3 : a.num < b.num
        · rw [if_pos h3, if_neg (by omega)]; rfl
        · rw [if_neg h3, if_pos (by omega)]
    · have h1' : ¬ b.ty = a.ty := fun h => h1 h.symm
      simp only [h1, h1', ne_eq, not_false_eq_true, if_true]
      by_cases h3 : a.ty < b.ty
      · rw [if_pos h3, if_neg (by omega)]; rfl
      · rw [if_neg h3, if_pos (by omega)]
  · rw [GV.cmp_eq] at h
    by_cases h1 : a.ty = b.ty
    · by_cases h2 : a.num = b.num
      · by_cases h3 : a.text = b.text
        · simp [h1, h2, h3] at h
          exact GV.eq_of a b h1 h2 h3 (i3 _ h)
        · simp [h1, h2, h3] at h
          split at h <;> simp at h
      · simp [h1, h2] at h
        split at h <;> simp at h
    · simp [h1] at h
      split at h <;> simp at h
  · rw [GV.cmp_eq]; simp [i4]

theorem GV.cmp_le (a b : GV) : a.cmp b ≤ 0 ↔ a.ty < b.ty ∨ (a.ty = b.ty ∧ (a.num < b.num ∨ (a.num = b.num ∧ (Op.bytesLess a.text b.text = true ∨ (a.text = b.text ∧ GV.cmpL a.items b.items ≤ 0))))) := by
  rw [GV.cmp_eq]
  by_cases h1 : a.ty = b.ty
  · by_cases h2 : a.num = b.num
    · by_cases h3 : a.text = b.text
      · simp [h1, h2, h3, bytesLess_self]
      · cases hb : Op.bytesLess a.text b.text <;> simp [h1, h2, h3, hb]
    · by_cases h3 : a.num < b.num <;> simp [h1, h2, h3]
  · by_cases h3 : a.ty < b.ty <;> simp [h1, h3]

theorem cmpL_trans : ∀ (xs ys zs : List GV), (∀ x ∈ xs, ∀ y z : GV, x.cmp y ≤ 0 → y.cmp z ≤ 0 → x.cmp z ≤ 0) → GV.cmpL xs ys ≤ 0 → GV.cmpL ys zs ≤ 0 → GV.cmpL xs zs ≤ 0
  | [], _, zs, _, _, _ => by cases zs <;> simp [GV.cmpL]
  | x :: xs, [], _, _, h, _ => by simp [GV.cmpL] at h
  | x :: xs, y :: ys, [], _, _, h => by simp [GV.cmpL] at h
  | x :: xs, y :: ys, z :: zs, ht, h, k => by
    have ih := cmpL_trans xs ys zs fun w hw => ht w (List.mem_cons_of_mem _ hw)
    have tx := ht x (List.mem_cons_self ..) y z
    simp only [GV.cmpL] at h k ⊢
    have o1 := ordd x
    have o2 := ordd y
    by_cases h1 : x.cmp y = 0
    · have := o1.zero y h1
      subst this
      simp only [h1, ne_eq, not_true, if_false] at h
      by_cases h2 : x.cmp z = 0
      · simp only [h2, ne_eq, not_true, if_false] at k ⊢
        exact ih h k
      · simp only [h2, ne_eq, not_false_eq_true, if_true] at k ⊢
        exact k
    · simp only [h1, ne_eq, not_false_eq_true, if_true] at h
      by_cases h2 : y.cmp z = 0
      · have := o2.zero z h2
        subst this
        rw [if_pos h1]; exact h
      · simp only [h2, ne_eq, not_false_eq_true, if_true] at k
        by_cases h3 : x.cmp z = 0
        · have := o1.zero z h3
          subst this
          have e1 := o1.swap y
          have := o1.range y
          omega
        · rw [if_pos h3]; exact tx h k
theorem cmp_trans (a : GV) : ∀ b c : GV, a.cmp b ≤ 0 → b.cmp c ≤ 0 → a.cmp c ≤ 0 := by
  refine GV.ind (p := fun a => ∀ b c : GV, a.cmp b ≤ 0 → b.cmp c ≤ 0 → a.cmp c ≤ 0) (fun a ih b c h k => ?_) a
  rw [GV.cmp_le] at *
  rcases h with h | ⟨e1, h⟩ <;> rcases k with k | ⟨f1, k⟩
  · left; omega
  · left; omega
  · left; omega
  · refine .inr ⟨by omega, ?_⟩
    rcases h with h | ⟨e2, h⟩ <;> rcases k with k | ⟨f2, k⟩
    · left; omega
    · left; omega
    · left; omega
    · refine .inr ⟨by omega, ?_⟩
      rcases h with h | ⟨e3, h⟩ <;> rcases k with k | ⟨f3, k⟩
      · exact .inl (bytesLess_trans _ _ _ h k)
      · exact .inl (by rw [← f3]; exact h)
      · exact .inl (by rw [e3]; exact k)
      · exact .inr ⟨by rw [e3, f3], cmpL_trans _ _ _ ih h k⟩
end Go.Av
