/-
  Domains: what the size, the look at smallness, the copy of a value give.
-/
import Derived.Test.YtieagdjehjghdaaPdSmall
import Derived.Test.YtieagdjehjghdaaPdOrd
set_option linter.all false
set_option linter.unusedSimpArgs false
namespace Go.Av

def axC (l : List GV) : List D := [.sl (l.map GV.cells)]
abbrev dL (d : List (List GV)) : List (List D) := d.map axC
abbrev dA (d : List (List GV)) : A := .agg [.d (.sl (dL d))]
@[simp] theorem length_axC (l : List GV) : (axC l).length = 1 := rfl
@[simp] theorem axC0 (l : List GV) (x : D) : (axC l).getD 0 x = .sl (l.map GV.cells) := rfl
@[simp] theorem axC_0 (l : List GV) (h : 0 < (axC l).length) : (axC l)[0]'h = .sl (l.map GV.cells) := rfl
@[simp] theorem axC_o (l : List GV) : (axC l)[0]? = some (.sl (l.map GV.cells)) := rfl
theorem axElem (d : List (List GV)) (k : Nat) (h : k < d.length) : xElem 1 (dL d) (k : Int) = some (axC d[k]) := xElem_map 1 axC d k h length_axC

/-- The product of the lengths, with a limit. -/
def prodF : List (List GV) → Int → Int × Int
  | [], n => (n, 0)
  | a :: d, n => if 1152921504606846976 < n * a.length then (0, 11) else prodF d (n * a.length)
def sizeF (d : List (List GV)) : Int × Int := if d.any (fun a => a.length = 0) then (0, 0) else prodF d 1
abbrev two (x : Int × Int) : A := .tup [aI x.1, aI x.2]

theorem quo_lt (n m : Int) (hn : 1 ≤ n) (hm : 1 ≤ m) : (IntKind.i64.wrap (Int.tdiv 1152921504606846976 n) < m) = (1152921504606846976 < n * m) := by
  have h1 : Int.tdiv 1152921504606846976 n = 1152921504606846976 / n := Int.tdiv_eq_ediv_of_nonneg (by omega)
  have h2 : 0 ≤ 1152921504606846976 / n := Int.ediv_nonneg (by omega) (by omega)
  have h3 : 1152921504606846976 / n ≤ 1152921504606846976 := Int.ediv_le_self _ (by omega)
  rw [h1, wrap_i _ (by omega) (by omega), eq_iff_iff, Int.ediv_lt_iff_lt_mul (by omega), Int.mul_comm]

theorem any_drop (d : List (List GV)) (k : Nat) (h : k < d.length) : (d.drop k).any (fun a => a.length = 0) = (decide (d[k].length = 0) || (d.drop (k + 1)).any (fun a => a.length = 0)) := by
  rw [drop_some d k h, List.any_cons]

theorem domain_prod (d : List (List GV)) (hd : d.length ≤ 12) (h0 : ∀ a ∈ d, 0 < a.length) (h70 : ∀ a ∈ d, a.length ≤ 70) (Φ : Phi) (f n : Nat) (hn : d.length + 1 ≤ n) :
    iter (fun (x : Int × List (List D) × Int × Int × Unit) (rec : (Int × List (List D) × Int × Int × Unit) → Option A) => domain_Size_l1 Φ f (fun n9 l10 i11 i12 => rec (n9, l10, i11, i12, ())) x.1 x.2.1 x.2.2.1 x.2.2.2.1) n ((1 : Int), dL d, ((dL d).length : Int), (0 : Int), ()) = some (two (prodF d 1)) := by
  have key := iter_ex (R := A) d.length (fun k (x : Int × List (List D) × Int × Int × Unit) => ∃ c : Int, x = (c, dL d, (d.length : Int), (k : Int), ()) ∧ 1 ≤ c ∧ c ≤ 1152921504606846976 ∧ prodF (d.drop k) c = prodF d 1) (fun r => r = two (prodF d 1))
    (F := fun (x : Int × List (List D) × Int × Int × Unit) (rec : (Int × List (List D) × Int × Int × Unit) → Option A) => domain_Size_l1 Φ f (fun n9 l10 i11 i12 => rec (n9, l10, i11, i12, ())) x.1 x.2.1 x.2.2.1 x.2.2.2.1)
    (fun k x rec hk hx hrec => by
      obtain ⟨c, rfl, c1, c2, hc⟩ := hx
      by_cases hlt : k < d.length
      · have hlt' : (k : Int) < d.length := by omega
        have hm := List.getElem_mem hlt
        have a0 := h0 _ hm
        have a70 := h70 _ hm
        have hw := wrap_i (k + 1) (by omega) (by omega)
        have hq := quo_lt c d[k].length (by omega) (by omega)
        have hne : ¬ c = 0 := by omega
        rw [drop_some d k hlt, prodF] at hc
        by_cases hb : 1152921504606846976 < c * (d[k].length : Int)
        · rw [if_pos hb] at hc
          refine ⟨two (0, 11), ?_, by rw [hc]⟩
          simp only [domain_Size_l1, axElem d k hlt, hw, hq, hb, hne, xite_decide, xif_decide, Option.bind_some, length_axC, axC0, xDL_sl, List.length_map, Nat.le_refl, if_true, hlt', decide_false, Bool.not_false, xif_true, if_false]
        · rw [if_neg hb] at hc
          have hpos : 1 ≤ c * (d[k].length : Int) := Int.mul_pos (by omega) (by omega)
          have hw2 := wrap_i (c * (d[k].length : Int)) (by omega) (by omega)
          simp only [domain_Size_l1, axElem d k hlt, hw, hw2, hq, hb, hne, xite_decide, xif_decide, Option.bind_some, length_axC, axC0, xDL_sl, List.length_map, Nat.le_refl, if_true, hlt', decide_false, Bool.not_false, xif_true, if_false]
          exact hrec _ hlt ⟨_, rfl, hpos, by omega, hc⟩
      · have hlt' : ¬ (k : Int) < d.length := by omega
        rw [List.drop_of_length_le (by omega), prodF] at hc
        simp only [domain_Size_l1, xite_decide, hlt', if_false]
        exact ⟨_, rfl, by rw [← hc]⟩) n 0 ((1 : Int), dL d, ((dL d).length : Int), (0 : Int), ()) (by omega) (by omega) ⟨1, by simp, by omega, by omega, rfl⟩
  obtain ⟨r, hr, rfl⟩ := key
  exact hr

theorem ref19_prod (d : List (List GV)) (hd : d.length ≤ 12) (h0 : ∀ a ∈ d, 0 < a.length) (h70 : ∀ a ∈ d, a.length ≤ 70) (Φ : Phi) (f n : Nat) (hn : d.length + 1 ≤ n) :
    iter (fun (x : Unit × Int × Int × (List (List D) × Unit) × Unit) (rec : (Unit × Int × Int × (List (List D) × Unit) × Unit) → Option A) => ref19_Size_l1 Φ f (fun n6 i7 l8 => rec ((), n6, i7, (l8, ()), ())) x.2.1 x.2.2.1 x.2.2.2.1.1) n ((), (1 : Int), (0 : Int), (dL d, ()), ()) = some (two (prodF d 1)) := by
  have key := iter_ex (R := A) d.length (fun k (x : Unit × Int × Int × (List (List D) × Unit) × Unit) => ∃ c : Int, x = ((), c, (k : Int), (dL d, ()), ()) ∧ 1 ≤ c ∧ c ≤ 1152921504606846976 ∧ prodF (d.drop k) c = prodF d 1) (fun r => r = two (prodF d 1))
    (F := fun (x : Unit × Int × Int × (List (List D) × Unit) × Unit) (rec : (Unit × Int × Int × (List (List D) × Unit) × Unit) → Option A) => ref19_Size_l1 Φ f (fun n6 i7 l8 => rec ((), n6, i7, (l8, ()), ())) x.2.1 x.2.2.1 x.2.2.2.1.1)
    (fun k x rec hk hx hrec => by
      obtain ⟨c, rfl, c1, c2, hc⟩ := hx
      by_cases hlt : k < d.length
      · have hlt' : (k : Int) < d.length := by omega
        have hm := List.getElem_mem hlt
        have a0 := h0 _ hm
        have a70 := h70 _ hm
        have hw := wrap_i (k + 1) (by omega) (by omega)
        have hq := quo_lt d[k].length c (by omega) (by omega)
        have hne : ¬ (d[k].length : Int) = 0 := by omega
        rw [Int.mul_comm] at hq
        rw [drop_some d k hlt, prodF] at hc
        by_cases hb : 1152921504606846976 < c * (d[k].length : Int)
        · rw [if_pos hb] at hc
          refine ⟨two (0, 11), ?_, by rw [hc]⟩
          simp only [ref19_Size_l1, axElem d k hlt, hw, hq, hb, hne, xite_decide, xif_decide, Option.bind_some, length_axC, axC0, xDL_sl, List.length_map, Nat.le_refl, if_true, hlt', decide_false, Bool.not_false, xif_true, if_false]
        · rw [if_neg hb] at hc
          have hpos : 1 ≤ c * (d[k].length : Int) := Int.mul_pos (by omega) (by omega)
          have hw2 := wrap_i (c * (d[k].length : Int)) (by omega) (by omega)
          simp only [ref19_Size_l1, axElem d k hlt, hw, hw2, hq, hb, hne, xite_decide, xif_decide, Option.bind_some, length_axC, axC0, xDL_sl, List.length_map, Nat.le_refl, if_true, hlt', decide_false, Bool.not_false, xif_true, if_false]
          exact hrec _ hlt ⟨_, rfl, hpos, by omega, hc⟩
      · have hlt' : ¬ (k : Int) < d.length := by omega
        rw [List.drop_of_length_le (by omega), prodF] at hc
        simp only [ref19_Size_l1, xite_decide, List.length_map, hlt', if_false]
        exact ⟨_, rfl, by rw [← hc]⟩) n 0 ((), (1 : Int), (0 : Int), (dL d, ()), ()) (by omega) (by omega) ⟨1, rfl, by omega, by omega, rfl⟩
  obtain ⟨r, hr, rfl⟩ := key
  exact hr

theorem no_empty (d : List (List GV)) (h : d.any (fun a => a.length = 0) = false) : ∀ a ∈ d, 0 < a.length := by
  intro a ha
  rw [List.any_eq_false] at h
  have := h a ha
  simp at this
  exact List.length_pos_iff.2 this

theorem domain_Size_spec (d : List (List GV)) (hd : d.length ≤ 12) (h70 : ∀ a ∈ d, a.length ≤ 70) (n : Nat) (hn : d.length + 3 ≤ n) : Φ0 n i_domain_Size [dA d] = some (two (sizeF d)) := by
  obtain ⟨m, rfl⟩ := nat_succ (n := n) (k := 0) (by omega)
  rw [domain_Size_run, domain_Size]
  have hdl : ((dL d).length : Int) = d.length := by simp
  rw [hdl]
  refine iter_ex' (R := A) d.length (fun k x => x = ((), (1 : Int), dL d, (d.length : Int), (k : Int), (dL d, ()), ()) ∧ d.any (fun a => a.length = 0) = (d.drop k).any (fun a => a.length = 0)) (two (sizeF d)) (fun k x rec hk hx hrec => ?_) m 0 _ (by omega) (by omega) ⟨rfl, rfl⟩
  obtain ⟨rfl, ha⟩ := hx
  by_cases hlt : k < d.length
  · have hlt' : (k : Int) < d.length := by omega
    have hw := wrap_i (k + 1) (by omega) (by omega)
    rw [any_drop d k hlt] at ha
    by_cases hz : d[k].length = 0
    · have hz' : (d[k].length : Int) = 0 := by omega
      simp only [hz, decide_true, Bool.true_or] at ha
      simp only [domain_Size_l0, axElem d k hlt, hz', hlt', xite_decide, xif_decide, Option.bind_some, length_axC, axC0, xDL_sl, List.length_map, Nat.le_refl, if_true, sizeF, ha]
    · have hz' : ¬ (d[k].length : Int) = 0 := by omega
      simp only [hz, decide_false, Bool.false_or] at ha
      simp only [domain_Size_l0, axElem d k hlt, hz', hlt', hw, xite_decide, xif_decide, Option.bind_some, length_axC, axC0, xDL_sl, List.length_map, Nat.le_refl, if_true, if_false]
      exact hrec _ hlt ⟨rfl, ha⟩
  · have hlt' : ¬ (k : Int) < d.length := by omega
    rw [List.drop_of_length_le (by omega), List.any_nil] at ha
    simp only [domain_Size_l0, hlt', xite_decide, if_false, sizeF, ha, Bool.false_eq_true]
    exact domain_prod d hd (no_empty d ha) h70 _ _ _ (by omega)

theorem ref19_Size_spec (d : List (List GV)) (hd : d.length ≤ 12) (h70 : ∀ a ∈ d, a.length ≤ 70) (n : Nat) (hn : d.length + 3 ≤ n) : Φ0 n i_ref19_Size [dA d] = some (two (sizeF d)) := by
  obtain ⟨m, rfl⟩ := nat_succ (n := n) (k := 0) (by omega)
  rw [ref19_Size_run, ref19_Size]
  refine iter_ex' (R := A) d.length (fun k x => x = ((), (k : Int), (dL d, ()), ()) ∧ d.any (fun a => a.length = 0) = (d.drop k).any (fun a => a.length = 0)) (two (sizeF d)) (fun k x rec hk hx hrec => ?_) m 0 _ (by omega) (by omega) ⟨rfl, rfl⟩
  obtain ⟨rfl, ha⟩ := hx
  by_cases hlt : k < d.length
  · have hlt' : (k : Int) < d.length := by omega
    have hw := wrap_i (k + 1) (by omega) (by omega)
    rw [any_drop d k hlt] at ha
    by_cases hz : d[k].length = 0
    · have hz' : (d[k].length : Int) = 0 := by omega
      simp only [hz, decide_true, Bool.true_or] at ha
      simp only [ref19_Size_l0, axElem d k hlt, hz', hlt', xite_decide, xif_decide, Option.bind_some, length_axC, axC0, xDL_sl, List.length_map, Nat.le_refl, if_true, sizeF, ha]
    · have hz' : ¬ (d[k].length : Int) = 0 := by omega
      simp only [hz, decide_false, Bool.false_or] at ha
      simp only [ref19_Size_l0, axElem d k hlt, hz', hlt', hw, xite_decide, xif_decide, Option.bind_some, length_axC, axC0, xDL_sl, List.length_map, Nat.le_refl, if_true, if_false]
      exact hrec _ hlt ⟨rfl, ha⟩
  · have hlt' : ¬ (k : Int) < d.length := by omega
    rw [List.drop_of_length_le (by omega), List.any_nil] at ha
    simp only [ref19_Size_l0, hlt', xite_decide, List.length_map, if_false, sizeF, ha, Bool.false_eq_true]
    exact ref19_prod d hd (no_empty d ha) h70 _ _ _ (by omega)
end Go.Av
