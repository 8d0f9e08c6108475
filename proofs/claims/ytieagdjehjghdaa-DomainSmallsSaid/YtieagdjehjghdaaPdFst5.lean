/-
  No two of the first values are alike.
-/
import Derived.Test.YtieagdjehjghdaaPdFst4
import Derived.Test.YtieagdjehjghdaaPdDom9
set_option linter.all false
set_option linter.unusedSimpArgs false
set_option maxRecDepth 100000
namespace Go.Av
open Go.Proofs
theorem val_ne_b : ((List.range 9).all fun t => (List.range 64).all fun k => (List.range k).all fun j => t == 0 || (t == 1 && decide (2 ≤ k)) || !decide ((valAt t j).cmp (valAt t k) = 0)) = true := by kernel_rfl
theorem val_ne (t : Nat) (ht : t < 9) (h1 : 1 ≤ t) (k : Nat) (hk : k < 64) (h2 : t ≠ 1 ∨ k < 2) (j : Nat) (hj : j < k) : (valAt t j).cmp (valAt t k) ≠ 0 := by
  have h := val_ne_b
  rw [List.all_eq_true] at h
  have h := h t (List.mem_range.2 ht)
  rw [List.all_eq_true] at h
  have h := h k (List.mem_range.2 hk)
  rw [List.all_eq_true] at h
  have h := h j (List.mem_range.2 hj)
  simp only [Bool.or_eq_true, Bool.and_eq_true, beq_iff_eq, decide_eq_true_eq, Bool.not_eq_true', decide_eq_false_iff_not] at h
  rcases h with (h | h) | h
  · omega
  · omega
  · exact h

theorem GV.ok_chv (t : Nat) (b : Bool) : (chv t b).Ok := by
  unfold chv
  split
  · exact .mk _ _ _ _ (by simp) (by simp) (by omega) (by split <;> omega) (by simp)
  · split
    · exact .mk _ _ _ _ (by split <;> simp) (by simp) (by omega) (by omega) (by simp)
    · exact .mk _ _ _ _ (by simp) (by simp) (by omega) (by omega) (fun x hx => by
        simp only [List.mem_singleton] at hx
        subst hx
        exact .mk _ _ _ _ (by split <;> simp) (by simp) (by omega) (by omega) (by simp))
theorem chs_ok (t : Nat) (s : List UInt8) : ∀ x ∈ chs t s, x.Ok := by
  intro x hx
  simp only [chs, List.mem_map] at hx
  obtain ⟨c, _, rfl⟩ := hx
  exact GV.ok_chv _ _
theorem val_ok (t k : Nat) (hk : k < 64) : (valAt t k).Ok := by
  have w1 := (wd_ok k).1
  have w2 := (wd_ok (k + 1)).1
  unfold valAt
  split
  · exact .mk _ _ _ _ (by simp) (by simp) (by omega) (by split <;> omega) (by simp)
  · have hib : -100 ≤ intAt k ∧ intAt k ≤ 100 := by unfold intAt; split <;> omega
    exact .mk _ _ _ _ (by simp) (by simp) (by omega) (by omega) (by simp)
  · exact .mk _ _ _ _ (by omega) (by simp) (by omega) (by omega) (by simp)
  · exact .mk _ _ _ _ (by simp) (by simp) (by omega) (by omega) (by simp)
  · exact .mk _ _ _ _ (by simp) (by rw [chs_len]; omega) (by omega) (by omega) (chs_ok _ _)
  · exact .mk _ _ _ _ (by simp) (by rw [chs_len]; omega) (by omega) (by omega) (chs_ok _ _)
  · exact .mk _ _ _ _ (by simp) (by rw [chs_len]; omega) (by omega) (by omega) (chs_ok _ _)
  · exact .mk _ _ _ _ (by omega) (by simp) (by omega) (by omega) (by simp)

theorem firstN_le (t n : Nat) : firstN t n ≤ n := by unfold firstN; split <;> omega
theorem firstF_get (t n k : Nat) (h : k < (firstF t n).length) : (firstF t n)[k] = valAt t k ∧ k < n ∧ (t ≠ 1 ∨ k < 2) := by
  have hl : k < firstN t n := by simpa [firstF] using h
  have hn := firstN_le t n
  refine ⟨by simp [firstF], by omega, ?_⟩
  unfold firstN at hl
  by_cases ht : t = 1
  · rw [if_pos ht] at hl; omega
  · exact .inl ht
theorem firstF_ok (t n : Nat) (hn : n ≤ 64) : ∀ g ∈ firstF t n, g.Ok := by
  intro g hg
  obtain ⟨k, hk, rfl⟩ := List.mem_iff_getElem.1 hg
  obtain ⟨e, h1, _⟩ := firstF_get t n k hk
  rw [e]; exact val_ok t k (by omega)
theorem wtL_le (l : List GV) (M : Nat) (h : ∀ g ∈ l, g.wt ≤ M) : GV.wtL l ≤ l.length * (M + 1) := by
  induction l with
  | nil => simp [GV.wtL]
  | cons g l ih =>
    have h1 := h g (List.mem_cons_self ..)
    have h2 := ih fun x hx => h x (List.mem_cons_of_mem _ hx)
    rw [List.length_cons, Nat.add_mul]
    simp only [GV.wtL]
    omega
theorem firstF_wt (t n : Nat) (ht : t < 9) (h1 : 1 ≤ t) (hn : n ≤ 64) : GV.wtL (firstF t n) ≤ 6500 := by
  have hw := wtL_le (firstF t n) 100 fun g hg => by
    obtain ⟨k, hk, rfl⟩ := List.mem_iff_getElem.1 hg
    obtain ⟨e, h2, _⟩ := firstF_get t n k hk
    rw [e]; exact val_wt t ht h1 k (by omega)
  have := firstF_len t n
  have : (firstF t n).length * (100 + 1) ≤ 64 * 101 := Nat.mul_le_mul_right _ (by omega)
  omega

theorem axChk_zero (a : List GV) (t : Int) : ∀ (l : List GV) (q : Nat), l = a.drop q → (∀ (k : Nat) (h : k < a.length), a[k].chk = 0 ∧ a[k].ty = t ∧ (k : Int) ≤ placeF a a[k] 0) → axChk a t q l = 0
  | [], _, _, _ => by rw [axChk]
  | v :: vs, q, hl, h => by
    have hk : q < a.length := by
      rcases Nat.lt_or_ge q a.length with h | h
      · exact h
      · rw [List.drop_of_length_le h] at hl; cases hl
    rw [drop_some a q hk] at hl
    injection hl with h1 h2
    obtain ⟨c1, c2, c3⟩ := h q hk
    rw [axChk, if_neg (by rw [h1]; simp [c1]), if_neg (by rw [h1]; simp [c2]), if_neg (by rw [h1]; omega)]
    exact axChk_zero a t vs (q + 1) h2 h
theorem first_axChk (t n : Nat) (ht : t < 9) (h1 : 1 ≤ t) (hn : n ≤ 64) : axChk (firstF t n) t 0 (firstF t n) = 0 := by
  refine axChk_zero (firstF t n) t (firstF t n) 0 rfl fun k hk => ?_
  obtain ⟨e, h2, h3⟩ := firstF_get t n k hk
  rw [e]
  refine ⟨val_chk t ht h1 k (by omega) h3, val_ty t ht h1 k (by omega), ?_⟩
  have hself : (firstF t n)[k].cmp (valAt t k) = 0 := by rw [e]; exact (ordd _).self
  have hle := placeF_le (firstF t n) (valAt t k) 0 k hk hself
  obtain ⟨j, hj, hj1, hj2⟩ := placeF_get (firstF t n) (valAt t k) 0 (by omega) hle.1
  obtain ⟨e2, _, _⟩ := firstF_get t n j hj
  rw [e2] at hj2
  by_cases hjk : j < k
  · exact absurd hj2 (val_ne t ht h1 k (by omega) h3 j hjk)
  · omega
end Go.Av
