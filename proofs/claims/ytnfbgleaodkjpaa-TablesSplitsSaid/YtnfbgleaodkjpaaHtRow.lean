/-
  Rows, columns and cells of a table.
-/
import Derived.Test.YtnfbgleaodkjpaaHtRef
import Derived.Test.YtnfbgleaodkjpaaHtAlive
set_option linter.all false
set_option linter.unusedSimpArgs false
namespace Go.Av

abbrev two (a b : A) : A := .tup [a, b]
theorem xApp_rD (a : Row) (s : Txt) (h : a.length ≤ 1000) : xApp 1 16 (rD a).length (rD a) [[.s s]] = some (rD (a ++ [s])) := by
  unfold xApp
  rw [if_pos ⟨rfl, by simp, fun c hc => by simp only [rD, List.mem_map] at hc; obtain ⟨s, _, rfl⟩ := hc; rfl, by simp; omega⟩]
  simp [rD]
theorem plc_nat {i : Int} {n : Nat} (h : ¬ plc i n < 0) : ∃ k : Nat, plc i n = k ∧ k < n := ⟨(plc i n).toNat, by omega, by have := plc_lt i n; omega⟩

/-- A row, or the error. -/
def rowF (t : Tab) (i : Int) : Row × Int := if chk t ≠ 0 then ([], chk t) else if plc i t.length < 0 then ([], 7) else (t.getD (plc i t.length).toNat [], 0)
def columnF (t : Tab) (i : Int) : Row × Int := if chk t ≠ 0 then ([], chk t) else if plc i (cols t) < 0 then ([], 7) else (colF t (plc i (cols t)).toNat, 0)
def cellF (t : Tab) (i k : Int) : Txt × Int := if chk t ≠ 0 then ([], chk t) else if plc i t.length < 0 then ([], 7) else if plc k (cols t) < 0 then ([], 7) else ((t.getD (plc i t.length).toNat []).getD (plc k (cols t)).toNat [], 0)

theorem tables_Row_spec (t : Tab) (i : Int) (n : Nat) (hn : 101 ≤ n) : (O0 n).Φ i_tables_Row [aT t, aI i] = some (two (aR (rowF t i).1) (aI (rowF t i).2)) := by
  obtain ⟨m, rfl⟩ := nat_succ (n := n) (k := 0) (by omega)
  rw [tables_Row_run, tables_Row, tables_Check_spec t m (by omega), rowF]
  simp only [Option.bind_some, xAD_d, xDI_v, xite_not, xite_decide, length_tD]
  by_cases h0 : chk t = 0
  · have hlen := chk_len h0
    rw [tables_place_spec i t.length (by omega) m (by omega)]
    simp only [h0, if_true, Option.bind_some, xAD_d, xDI_v, ne_eq, not_true, if_false]
    by_cases h1 : plc i t.length < 0
    · simp only [h1, if_true]; rfl
    · obtain ⟨k, hk, hkl⟩ := plc_nat h1
      have hrow := chk_row h0 _ (List.getElem_mem hkl)
      have hg : t.getD k [] = t[k] := by simp [hkl]
      have h1' : ¬ (k : Int) < 0 := by omega
      rw [hk]
      simp only [h1', if_false, xElem_tD t k hkl, Option.bind_some, List.length_singleton, Nat.le_refl, decide_true, xif_tt, getD_one, xDL_sl, slices_Clone_spec t[k] (by omega) m (by omega), xAD_d, Int.toNat_natCast, hg]
  · simp only [h0, if_false, ne_eq, not_false_eq_true, if_true]; rfl
theorem ref08_Row_spec (t : Tab) (i : Int) (n : Nat) (hn : 101 ≤ n) : (O0 n).Φ i_ref08_Row [aT t, aI i] = some (two (aR (rowF t i).1) (aI (rowF t i).2)) := by
  obtain ⟨m, rfl⟩ := nat_succ (n := n) (k := 0) (by omega)
  rw [ref08_Row_run, ref08_Row, ref08_Check_spec t m (by omega), rowF]
  simp only [Option.bind_some, xAD_d, xDI_v, xite_not, xite_decide, length_tD]
  by_cases h0 : chk t = 0
  · have hlen := chk_len h0
    simp only [ref08_index_spec i t.length (by omega) m (by omega), h0, if_true, Option.bind_some, xAD_d, xDI_v, ne_eq, not_true, if_false]
    by_cases h1 : plc i t.length < 0
    · simp only [h1, if_true]; rfl
    · obtain ⟨k, hk, hkl⟩ := plc_nat h1
      have hrow := chk_row h0 _ (List.getElem_mem hkl)
      have hg : t.getD k [] = t[k] := by simp [hkl]
      have h1' : ¬ (k : Int) < 0 := by omega
      rw [hk]
      simp only [h1', if_false, xElem_tD t k hkl, Option.bind_some, List.length_singleton, Nat.le_refl, decide_true, xif_tt, getD_one, xDL_sl, ref08_list_spec t[k] (by omega) m (by omega), xAD_d, Int.toNat_natCast, hg]
  · simp only [h0, if_false, ne_eq, not_false_eq_true, if_true]; rfl

theorem tables_Column_spec (t : Tab) (i : Int) (n : Nat) (hn : 101 ≤ n) : (O0 n).Φ i_tables_Column [aT t, aI i] = some (two (aR (columnF t i).1) (aI (columnF t i).2)) := by
  obtain ⟨m, rfl⟩ := nat_succ (n := n) (k := 0) (by omega)
  rw [tables_Column_run, tables_Column, tables_Check_spec t m (by omega), columnF]
  simp only [Option.bind_some, xAD_d, xDI_v, xite_not, xite_decide, length_tD]
  by_cases h0 : chk t = 0
  · have hlen := chk_len h0
    have hrows := chk_row h0
    have hcols := chk_cols h0
    simp only [tables_columns_spec t m (by omega), tables_place_spec i (cols t) (by omega) m (by omega), h0, if_true, Option.bind_some, xAD_d, xDI_v, ne_eq, not_true, if_false]
    by_cases h1 : plc i (cols t) < 0
    · simp only [h1, if_true]; rfl
    · obtain ⟨k, hk, hkl⟩ := plc_nat h1
      have h1' : ¬ (k : Int) < 0 := by omega
      rw [hk]
      simp only [h1', if_false, decide_true, xif_tt, Int.toNat_natCast]
      refine iter_ex' (R := A) t.length (fun j x => x = ((k : Int), rD (colF (t.take j) k), tD t, (t.length : Int), (j : Int), ())) _ (fun j x rec hj hx hrec => ?_) m 0 _ (by omega) (by omega) rfl
      subst hx
      by_cases hlt : j < t.length
      · have hw := wrap_i (j + 1) (by omega) (by omega)
        have hlt' : (j : Int) < t.length := by omega
        have hkr : k < t[j].length := by have := (hrows _ (List.getElem_mem hlt)).2.2.1; omega
        have ha := xApp_rD (colF (t.take j) k) t[j][k] (by simp [colF]; omega)
        have hgd : t[j].getD k [] = t[j][k] := by simp [hkr]
        simp only [tables_Column_l0, xite_decide, xif_decide, hlt', if_true, xElem_tD t j hlt, Option.bind_some, List.length_singleton, Nat.le_refl, getD_one, xDL_sl, xElem_rD t[j] k hkr, xDS_s, ha, hw]
        exact hrec _ hlt (by rw [colF_snoc t k j hlt, hgd]; rfl)
      · have hlt' : ¬ (j : Int) < t.length := by omega
        simp only [tables_Column_l0, xite_decide, hlt', if_false]
        rw [List.take_of_length_le (by omega)]
  · simp only [h0, if_false, ne_eq, not_false_eq_true, if_true]; rfl
theorem ref08_Column_spec (t : Tab) (i : Int) (n : Nat) (hn : 1003 ≤ n) : (O0 n).Φ i_ref08_Column [aT t, aI i] = some (two (aR (columnF t i).1) (aI (columnF t i).2)) := by
  obtain ⟨m, rfl⟩ := nat_succ (n := n) (k := 0) (by omega)
  rw [ref08_Column_run, ref08_Column, ref08_Check_spec t m (by omega), columnF]
  simp only [Option.bind_some, xAD_d, xDI_v, xite_not, xite_decide, length_tD]
  by_cases h0 : chk t = 0
  · have hlen := chk_len h0
    have hrows := chk_row h0
    have hcols := chk_cols h0
    simp only [ref08_Columns_spec t m (by omega), ref08_index_spec i (cols t) (by omega) m (by omega), h0, if_true, Option.bind_some, xAD_d, xDI_v, ne_eq, not_true, if_false]
    by_cases h1 : plc i (cols t) < 0
    · simp only [h1, if_true]; rfl
    · obtain ⟨k, hk, hkl⟩ := plc_nat h1
      have h1' : ¬ (k : Int) < 0 := by omega
      rw [hk]
      simp only [h1', if_false, ref08_column_spec t (by omega) k (fun r hr => by have := (hrows r hr).2.2.1; omega) m (by omega), Option.bind_some, xAD_d, xDL_sl, Int.toNat_natCast]
  · simp only [h0, if_false, ne_eq, not_false_eq_true, if_true]; rfl

theorem tables_Cell_spec (t : Tab) (i k : Int) (n : Nat) (hn : 101 ≤ n) : (O0 n).Φ i_tables_Cell [aT t, aI i, aI k] = some (two (aS (cellF t i k).1) (aI (cellF t i k).2)) := by
  obtain ⟨m, rfl⟩ := nat_succ (n := n) (k := 0) (by omega)
  rw [tables_Cell_run, tables_Cell, tables_Check_spec t m (by omega), cellF]
  simp only [Option.bind_some, xAD_d, xDI_v, xite_not, xite_decide, length_tD]
  by_cases h0 : chk t = 0
  · have hlen := chk_len h0
    have hrows := chk_row h0
    have hcols := chk_cols h0
    simp only [tables_columns_spec t m (by omega), tables_place_spec i t.length (by omega) m (by omega), tables_place_spec k (cols t) (by omega) m (by omega), h0, if_true, Option.bind_some, xAD_d, xDI_v, ne_eq, not_true, if_false]
    by_cases h1 : plc i t.length < 0
    · simp only [h1, if_true]
    · obtain ⟨j, hj, hjl⟩ := plc_nat h1
      have h1' : ¬ (j : Int) < 0 := by omega
      rw [hj]
      simp only [h1', if_false]
      by_cases h2 : plc k (cols t) < 0
      · simp only [h2, if_true]
      · obtain ⟨l, hl, hll⟩ := plc_nat h2
        have h2' : ¬ (l : Int) < 0 := by omega
        have hlr : l < t[j].length := by have := (hrows _ (List.getElem_mem hjl)).2.2.1; omega
        have hg : t.getD j [] = t[j] := by simp [hjl]
        have hg2 : t[j].getD l [] = t[j][l] := by simp [hlr]
        rw [hl]
        simp only [h2', if_false, xElem_tD t j hjl, xElem_rD t[j] l hlr, Option.bind_some, List.length_singleton, Nat.le_refl, decide_true, xif_tt, getD_one, xDL_sl, xDS_s, Int.toNat_natCast, hg, hg2]
  · simp only [h0, if_false, ne_eq, not_false_eq_true, if_true]
theorem ref08_Cell_spec (t : Tab) (i k : Int) (n : Nat) (hn : 102 ≤ n) : (O0 n).Φ i_ref08_Cell [aT t, aI i, aI k] = some (two (aS (cellF t i k).1) (aI (cellF t i k).2)) := by
  obtain ⟨m, rfl⟩ := nat_succ (n := n) (k := 0) (by omega)
  rw [ref08_Cell_run, ref08_Cell, ref08_Row_spec t i m (by omega), cellF, rowF]
  simp only [Option.bind_some, xtup_tup, List.getElem?_cons_zero, List.getElem?_cons_succ, xAD_d, xDL_sl, xDI_v, xite_not, xite_decide, length_rD]
  by_cases h0 : chk t = 0
  · have hlen := chk_len h0
    have hrows := chk_row h0
    have hcols := chk_cols h0
    simp only [h0, ne_eq, not_true, if_false]
    by_cases h1 : plc i t.length < 0
    · have h7 : ¬ (7 : Int) = 0 := by omega
      simp only [h1, if_true, h7, if_false]
    · obtain ⟨j, hj, hjl⟩ := plc_nat h1
      have h1' : ¬ (j : Int) < 0 := by omega
      have hg : t.getD j [] = t[j] := by simp [hjl]
      have hrl := (hrows _ (List.getElem_mem hjl)).2.2.1
      rw [hj]
      simp only [h1', if_false, if_true, Int.toNat_natCast, hg, hrl, ref08_index_spec k (cols t) (by omega) m (by omega), Option.bind_some, xAD_d, xDI_v]
      by_cases h2 : plc k (cols t) < 0
      · simp only [h2, if_true]
      · obtain ⟨l, hl, hll⟩ := plc_nat h2
        have h2' : ¬ (l : Int) < 0 := by omega
        have hlr : l < t[j].length := by omega
        have hg2 : t[j].getD l [] = t[j][l] := by simp [hlr]
        rw [hl]
        simp only [h2', if_false, xElem_rD t[j] l hlr, Option.bind_some, List.length_singleton, Nat.le_refl, decide_true, xif_tt, getD_one, xDS_s, Int.toNat_natCast, hg2]
  · simp only [h0, if_false, ne_eq, not_false_eq_true, if_true]

theorem rowF_len (t : Tab) (i : Int) : (rowF t i).1.length ≤ 1000 := by
  unfold rowF
  by_cases h0 : chk t = 0
  · simp only [h0, ne_eq, not_true, if_false]
    split
    · simp
    · rename_i h1
      obtain ⟨j, hj, hjl⟩ := plc_nat h1
      have hg : t.getD j [] = t[j] := by simp [hjl]
      have := (chk_row h0 _ (List.getElem_mem hjl)).2.1
      rw [hj, Int.toNat_natCast, hg]
      show t[j].length ≤ 1000
      omega
  · simp [h0]
theorem columnF_len (t : Tab) (i : Int) : (columnF t i).1.length ≤ 1000 := by
  unfold columnF
  by_cases h0 : chk t = 0
  · simp only [h0, ne_eq, not_true, if_false]
    have := chk_len h0
    split
    · simp
    · simp [colF]; omega
  · simp [h0]
theorem awake_spec (n : Nat) (hn : 24 ≤ n) : (O0 n).Φ i_law08_awake [] = some (aB true) := by
  obtain ⟨m, rfl⟩ : ∃ m, n = m + 24 := ⟨n - 24, by omega⟩
  exact awake_at m

theorem tablesParts_spec (t : Tab) (i k : Int) (n : Nat) (hn : 1200 ≤ n) : (O0 n).Φ i_law08_TablesParts [aT t, aI i, aI k] = some (aB true) := by
  obtain ⟨m, rfl⟩ := nat_succ (n := n) (k := 0) (by omega)
  rw [law08_TablesParts_run]
  have e0 := awake_spec m (by omega)
  have e1 := ref08_Texts_spec (rowF t i).1 (rowF t i).1 (rowF_len t i) m (by omega)
  have e2 := ref08_Texts_spec (columnF t k).1 (columnF t k).1 (columnF_len t k) m (by omega)
  simp only [law08_TablesParts, small_spec t m (by omega), Option.bind_some, xAD_d, xDB_v, xite_not]
  cases smallT t
  · simp only [xite_false, e0, Option.bind_some, xAD_d, xDB_v]
  · simp only [xite_true, tables_Row_spec t i m (by omega), ref08_Row_spec t i m (by omega), tables_Column_spec t k m (by omega), ref08_Column_spec t k m (by omega), tables_Cell_spec t i k m (by omega), ref08_Cell_spec t i k m (by omega), Option.bind_some, xtup_tup, List.getElem?_cons_zero, List.getElem?_cons_succ, xAD_d, xDL_sl, xDI_v, xDS_s, xDB_v, e1, e2, e0, xite_decide, xite_true, if_true, decide_true]
end Go.Av
