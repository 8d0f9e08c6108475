/-
  Whether a table is small; whether it is valid.
-/
import Derived.Test.YtnfbgleaodkjpaaHtData
set_option linter.all false
set_option linter.unusedSimpArgs false
namespace Go.Av

def smallR (r : Row) : Bool := decide (r.length ≤ 20) && r.all fun s => decide (s.length ≤ 100)
def smallT (t : Tab) : Bool := decide (t.length ≤ 20) && t.all smallR

theorem small_spec (t : Tab) (n : Nat) (hn : 40 ≤ n) : (O0 n).Φ i_law08_small [aT t] = some (aB (smallT t)) := by
  obtain ⟨m, rfl⟩ := nat_succ (n := n) (k := 0) (by omega)
  rw [law08_small_run, law08_small, smallT]
  by_cases h20 : t.length ≤ 20
  · have h20' : ¬ (20 : Int) < (tD t).length := by simp; omega
    simp only [xite_decide, h20', if_false, h20, decide_true, Bool.true_and]
    refine iter_nat t.length (fun k => (tD t, (k : Int), ())) (fun k => aB ((t.drop k).all smallR)) (fun k rec hk hrec => ?_) m 0 (by omega) (by omega)
    by_cases hlt : k < t.length
    · have hw := wrap_i (k + 1) (by omega) (by omega)
      have hlt' : (k : Int) < t.length := by omega
      have hr := hrec hlt
      rw [drop_some _ k hlt, List.all_cons]
      generalize hq : t[k] = r
      by_cases hr20 : r.length ≤ 20
      · have hr20' : ¬ (20 : Int) < r.length := by omega
        simp only [law08_small_l0, xite_decide, xif_decide, length_tD, hlt', if_true, xElem_tD t k hlt, hq, Option.bind_some, List.length_singleton, Nat.le_refl, getD_one, xDL_sl, length_rD, hr20', if_false, smallR, hr20, decide_true, Bool.true_and]
        refine iter_nat r.length (fun j => (tD t, (k : Int), (j : Int), ())) (fun j => aB ((r.drop j).all (fun s => decide (s.length ≤ 100)) && (t.drop (k + 1)).all smallR)) (fun j rec hj hrec => ?_) m 0 (by omega) (by omega)
        by_cases hjl : j < r.length
        · have hwj := wrap_i (j + 1) (by omega) (by omega)
          have hjl' : (j : Int) < r.length := by omega
          have hrj := hrec hjl
          rw [drop_some _ j hjl, List.all_cons]
          simp only [law08_small_l1, xite_decide, xif_decide, xElem_tD t k hlt, hq, Option.bind_some, List.length_singleton, Nat.le_refl, if_true, getD_one, xDL_sl, length_rD, hjl', xElem_rD r j hjl, xDS_s, hwj]
          by_cases h100 : r[j].length ≤ 100
          · have h100' : ¬ (100 : Int) < r[j].length := by omega
            simp only [h100', if_false, h100, decide_true, Bool.true_and]
            exact hrj
          · have h100' : (100 : Int) < r[j].length := by omega
            simp only [h100', if_true, h100, decide_false, Bool.false_and]
        · have hjl' : ¬ (j : Int) < r.length := by omega
          rw [List.drop_of_length_le (by omega), List.all_nil, Bool.true_and]
          simp only [law08_small_l1, xite_decide, xif_decide, xElem_tD t k hlt, hq, Option.bind_some, List.length_singleton, Nat.le_refl, if_true, getD_one, xDL_sl, length_rD, hjl', if_false, hw]
          exact hr
      · have hr20' : (20 : Int) < r.length := by omega
        simp only [law08_small_l0, xite_decide, xif_decide, length_tD, hlt', if_true, xElem_tD t k hlt, hq, Option.bind_some, List.length_singleton, Nat.le_refl, getD_one, xDL_sl, length_rD, hr20', smallR, hr20, decide_false, Bool.false_and]
    · have hlt' : ¬ (k : Int) < t.length := by omega
      rw [List.drop_of_length_le (by omega), List.all_nil]
      simp only [law08_small_l0, xite_decide, length_tD, hlt', if_false]
  · have h20' : (20 : Int) < (tD t).length := by simp; omega
    simp only [xite_decide, h20', if_true, h20, decide_false, Bool.false_and]

def okByte (b : UInt8) : Bool := decide (32 ≤ b.toNat ∧ b.toNat ≤ 126)
def chkS (s : Txt) : Int := if 64 < s.length then 2 else if s.all okByte then 0 else 4
def chkR : Row → Int
  | [] => 0
  | s :: r => if chkS s = 0 then chkR r else chkS s
def chkL (n0 : Nat) : Tab → Int
  | [] => 0
  | r :: t => if r.length < 1 then 2 else if 8 < r.length then 2 else if r.length ≠ n0 then 4 else if chkR r = 0 then chkL n0 t else chkR r
def chk (t : Tab) : Int := if 8 < t.length then 2 else chkL (t.headD []).length t

theorem head_get (t : Tab) (h : 0 < t.length) : t.headD [] = t[0] := by
  cases t with
  | nil => simp at h
  | cons r t => rfl

theorem tables_Check_spec (t : Tab) (n : Nat) (hn : 100 ≤ n) : (O0 n).Φ i_tables_Check [aT t] = some (aI (chk t)) := by
  obtain ⟨m, rfl⟩ := nat_succ (n := n) (k := 0) (by omega)
  rw [tables_Check_run, tables_Check, chk]
  by_cases h8 : 8 < t.length
  · have h8' : (8 : Int) < t.length := by omega
    simp only [xite_decide, length_tD, h8', if_true, h8]
  · have h8' : ¬ (8 : Int) < t.length := by omega
    simp only [xite_decide, length_tD, h8', if_false, h8]
    refine iter_nat t.length (fun k => (tD t, tD t, (t.length : Int), (k : Int), ())) (fun k => aI (chkL (t.headD []).length (t.drop k))) (fun k rec hk hrec => ?_) m 0 (by omega) (by omega)
    by_cases hlt : k < t.length
    · have hw := wrap_i (k + 1) (by omega) (by omega)
      have hlt' : (k : Int) < t.length := by omega
      have hr := hrec hlt
      have hpos : 0 < t.length := by omega
      rw [drop_some _ k hlt, chkL, head_get t hpos]
      rw [head_get t hpos] at hr
      generalize hq : t[k] = r
      simp only [tables_Check_l0, xite_decide, xite_not, xif_decide, hlt', if_true, xElem_tD t k hlt, hq, xElem_tD0 t hpos, Option.bind_some, List.length_singleton, Nat.le_refl, getD_one, xDL_sl, length_rD]
      by_cases hr1 : r.length < 1
      · have hr1' : (r.length : Int) < 1 := by omega
        simp only [hr1, hr1', if_true]
      · have hr1' : ¬ (r.length : Int) < 1 := by omega
        simp only [hr1, hr1', if_false]
        by_cases hr8 : 8 < r.length
        · have hr8' : (8 : Int) < r.length := by omega
          simp only [hr8, hr8', if_true]
        · have hr8' : ¬ (8 : Int) < r.length := by omega
          simp only [hr8, hr8', if_false]
          by_cases hrn : r.length = t[0].length
          · have hrn' : (r.length : Int) = t[0].length := by omega
            simp only [eq_true hrn', if_true, ← hrn, ne_eq, not_true, if_false]
            rw [← hrn] at hr
            refine iter_nat r.length (fun j => (tD t, tD t, (t.length : Int), (k : Int), rD r, (r.length : Int), (j : Int), ())) (fun j => aI (if chkR (r.drop j) = 0 then chkL r.length (t.drop (k + 1)) else chkR (r.drop j))) (fun j rec hj hrec => ?_) m 0 (by omega) (by omega)
            by_cases hjl : j < r.length
            · have hwj := wrap_i (j + 1) (by omega) (by omega)
              have hjl' : (j : Int) < r.length := by omega
              have hrj := hrec hjl
              rw [drop_some _ j hjl, chkR]
              generalize hs : r[j] = s
              simp only [tables_Check_l1, xite_decide, xif_decide, hjl', if_true, xElem_rD r j hjl, hs, Option.bind_some, List.length_singleton, Nat.le_refl, getD_one, xDS_s, hwj]
              by_cases h64 : 64 < s.length
              · have h64' : (64 : Int) < s.length := by omega
                simp [h64', chkS, h64]
              · have h64' : ¬ (64 : Int) < s.length := by omega
                simp only [h64', if_false, chkS, h64]
                refine iter_nat s.length (fun i => (tD t, s, tD t, (t.length : Int), (k : Int), rD r, (r.length : Int), (j : Int), (s.length : Int), (i : Int), ())) (fun i => aI (if (if (if (s.drop i).all okByte then (0 : Int) else 4) = 0 then chkR (r.drop (j + 1)) else (if (s.drop i).all okByte then 0 else 4)) = 0 then chkL r.length (t.drop (k + 1)) else (if (if (s.drop i).all okByte then (0 : Int) else 4) = 0 then chkR (r.drop (j + 1)) else (if (s.drop i).all okByte then 0 else 4)))) (fun i rec hi hrec => ?_) m 0 (by omega) (by omega)
                by_cases hil : i < s.length
                · have hwi := wrap_i (i + 1) (by omega) (by omega)
                  have hil' : (i : Int) < s.length := by omega
                  have hri := hrec hil
                  rw [drop_some _ i hil, List.all_cons]
                  simp only [tables_Check_l2, xite_decide, hil', if_true, xIdxS_get s i hil, Option.bind_some, hwi]
                  by_cases h1 : s[i].toNat < 32
                  · have h1' : (s[i].toNat : Int) < 32 := by omega
                    have : okByte s[i] = false := by simp [okByte]; omega
                    simp [h1', this]
                  · have h1' : ¬ (s[i].toNat : Int) < 32 := by omega
                    by_cases h2 : 126 < s[i].toNat
                    · have h2' : (126 : Int) < s[i].toNat := by omega
                      have : okByte s[i] = false := by simp [okByte]; omega
                      simp [h1', h2', this]
                    · have h2' : ¬ (126 : Int) < s[i].toNat := by omega
                      have : okByte s[i] = true := by simp [okByte]; omega
                      simp only [h1', h2', if_false, this, Bool.true_and]
                      exact hri
                · have hil' : ¬ (i : Int) < s.length := by omega
                  rw [List.drop_of_length_le (by omega), List.all_nil]
                  simp only [tables_Check_l2, xite_decide, hil', if_false, if_true, hwj]
                  exact hrj
            · have hjl' : ¬ (j : Int) < r.length := by omega
              rw [List.drop_of_length_le (by omega), chkR]
              simp only [tables_Check_l1, xite_decide, hjl', if_false, if_true, hw]
              exact hr
          · have hrn' : ¬ (r.length : Int) = t[0].length := by omega
            simp only [hrn', hrn, if_false, ne_eq, not_false_eq_true, if_true]
    · have hlt' : ¬ (k : Int) < t.length := by omega
      rw [List.drop_of_length_le (by omega), chkL]
      simp only [tables_Check_l0, xite_decide, hlt', if_false]

theorem ref08_Check_spec (t : Tab) (n : Nat) (hn : 100 ≤ n) : (O0 n).Φ i_ref08_Check [aT t] = some (aI (chk t)) := by
  obtain ⟨m, rfl⟩ := nat_succ (n := n) (k := 0) (by omega)
  rw [ref08_Check_run, ref08_Check, chk]
  by_cases h8 : 8 < t.length
  · have h8' : (8 : Int) < t.length := by omega
    simp only [xite_decide, length_tD, h8', if_true, h8]
  · have h8' : ¬ (8 : Int) < t.length := by omega
    simp only [xite_decide, length_tD, h8', if_false, h8]
    refine iter_nat t.length (fun k => (tD t, (k : Int), ())) (fun k => aI (chkL (t.headD []).length (t.drop k))) (fun k rec hk hrec => ?_) m 0 (by omega) (by omega)
    by_cases hlt : k < t.length
    · have hw := wrap_i (k + 1) (by omega) (by omega)
      have hlt' : (k : Int) < t.length := by omega
      have hr := hrec hlt
      have hpos : 0 < t.length := by omega
      rw [drop_some _ k hlt, chkL, head_get t hpos]
      rw [head_get t hpos] at hr
      generalize hq : t[k] = r
      simp only [ref08_Check_l0, xite_decide, xite_not, xif_decide, length_tD, hlt', if_true, xElem_tD t k hlt, hq, xElem_tD0 t hpos, Option.bind_some, List.length_singleton, Nat.le_refl, getD_one, xDL_sl, length_rD]
      by_cases hr1 : r.length < 1
      · have hr1' : (r.length : Int) < 1 := by omega
        simp only [hr1, hr1', if_true]
      · have hr1' : ¬ (r.length : Int) < 1 := by omega
        simp only [hr1, hr1', if_false]
        by_cases hr8 : 8 < r.length
        · have hr8' : (8 : Int) < r.length := by omega
          simp only [hr8, hr8', if_true]
        · have hr8' : ¬ (8 : Int) < r.length := by omega
          simp only [hr8, hr8', if_false]
          by_cases hrn : r.length = t[0].length
          · have hrn' : (r.length : Int) = t[0].length := by omega
            simp only [eq_true hrn', if_true, ← hrn, ne_eq, not_true, if_false]
            rw [← hrn] at hr
            refine iter_nat r.length (fun j => (tD t, (k : Int), (j : Int), ())) (fun j => aI (if chkR (r.drop j) = 0 then chkL r.length (t.drop (k + 1)) else chkR (r.drop j))) (fun j rec hj hrec => ?_) m 0 (by omega) (by omega)
            by_cases hjl : j < r.length
            · have hwj := wrap_i (j + 1) (by omega) (by omega)
              have hjl' : (j : Int) < r.length := by omega
              have hrj := hrec hjl
              rw [drop_some _ j hjl, chkR]
              generalize hs : r[j] = s
              simp only [ref08_Check_l1, xite_decide, xif_decide, xElem_tD t k hlt, hq, length_rD, xDL_sl, hjl', if_true, xElem_rD r j hjl, hs, Option.bind_some, List.length_singleton, Nat.le_refl, getD_one, xDS_s, hwj]
              by_cases h64 : 64 < s.length
              · have h64' : (64 : Int) < s.length := by omega
                simp [h64', chkS, h64]
              · have h64' : ¬ (64 : Int) < s.length := by omega
                simp only [h64', if_false, chkS, h64]
                refine iter_nat s.length (fun i => (tD t, (k : Int), (j : Int), (i : Int), ())) (fun i => aI (if (if (if (s.drop i).all okByte then (0 : Int) else 4) = 0 then chkR (r.drop (j + 1)) else (if (s.drop i).all okByte then 0 else 4)) = 0 then chkL r.length (t.drop (k + 1)) else (if (if (s.drop i).all okByte then (0 : Int) else 4) = 0 then chkR (r.drop (j + 1)) else (if (s.drop i).all okByte then 0 else 4)))) (fun i rec hi hrec => ?_) m 0 (by omega) (by omega)
                by_cases hil : i < s.length
                · have hwi := wrap_i (i + 1) (by omega) (by omega)
                  have hil' : (i : Int) < s.length := by omega
                  have hri := hrec hil
                  rw [drop_some _ i hil, List.all_cons]
                  simp only [ref08_Check_l2, xite_decide, xif_decide, xElem_tD t k hlt, hq, xDL_sl, xElem_rD r j hjl, hs, xDS_s, List.length_singleton, Nat.le_refl, getD_one, hil', if_true, xIdxS_get s i hil, Option.bind_some, hwi]
                  by_cases h1 : s[i].toNat < 32
                  · have h1' : (s[i].toNat : Int) < 32 := by omega
                    have : okByte s[i] = false := by simp [okByte]; omega
                    simp [h1', this]
                  · have h1' : ¬ (s[i].toNat : Int) < 32 := by omega
                    by_cases h2 : 126 < s[i].toNat
                    · have h2' : (126 : Int) < s[i].toNat := by omega
                      have : okByte s[i] = false := by simp [okByte]; omega
                      simp [h1', h2', this]
                    · have h2' : ¬ (126 : Int) < s[i].toNat := by omega
                      have : okByte s[i] = true := by simp [okByte]; omega
                      simp only [h1', h2', if_false, this, Bool.true_and]
                      exact hri
                · have hil' : ¬ (i : Int) < s.length := by omega
                  rw [List.drop_of_length_le (by omega), List.all_nil]
                  simp only [ref08_Check_l2, xite_decide, xif_decide, xElem_tD t k hlt, hq, xDL_sl, xElem_rD r j hjl, hs, xDS_s, List.length_singleton, Nat.le_refl, getD_one, Option.bind_some, hil', if_false, if_true, hwj]
                  exact hrj
            · have hjl' : ¬ (j : Int) < r.length := by omega
              rw [List.drop_of_length_le (by omega), chkR]
              simp only [ref08_Check_l1, xite_decide, xif_decide, xElem_tD t k hlt, hq, xDL_sl, length_rD, List.length_singleton, Nat.le_refl, getD_one, Option.bind_some, hjl', if_false, if_true, hw]
              exact hr
          · have hrn' : ¬ (r.length : Int) = t[0].length := by omega
            simp only [hrn', hrn, if_false, ne_eq, not_false_eq_true, if_true]
    · have hlt' : ¬ (k : Int) < t.length := by omega
      rw [List.drop_of_length_le (by omega), chkL]
      simp only [ref08_Check_l0, xite_decide, length_tD, hlt', if_false]
end Go.Av
