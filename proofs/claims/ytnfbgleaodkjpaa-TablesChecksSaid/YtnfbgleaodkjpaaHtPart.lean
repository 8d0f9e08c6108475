/-
  Numbers of rows and columns; copies; rows, columns and cells.
-/
import Derived.Test.YtnfbgleaodkjpaaHtChk
set_option linter.all false
set_option linter.unusedSimpArgs false
namespace Go.Av

def cols (t : Tab) : Nat := (t.headD []).length

theorem chkL_spec (n0 : Nat) : ∀ t : Tab, chkL n0 t = 0 → ∀ r ∈ t, 1 ≤ r.length ∧ r.length ≤ 8 ∧ r.length = n0 ∧ chkR r = 0
  | [], _, r, hr => by cases hr
  | q :: t, h, r, hr => by
    rw [chkL] at h
    split at h
    · cases h
    · split at h
      · cases h
      · split at h
        · cases h
        · split at h
          · rename_i h1 h2 h3 h4
            rcases List.mem_cons.1 hr with rfl | hr
            · exact ⟨by omega, by omega, by simpa using h3, h4⟩
            · exact chkL_spec n0 t h r hr
          · rename_i h4; exact absurd h h4
theorem chk_len {t : Tab} (h : chk t = 0) : t.length ≤ 8 := by
  unfold chk at h
  split at h
  · cases h
  · omega
theorem chk_row {t : Tab} (h : chk t = 0) : ∀ r ∈ t, 1 ≤ r.length ∧ r.length ≤ 8 ∧ r.length = cols t ∧ chkR r = 0 := by
  unfold chk at h
  split at h
  · cases h
  · exact chkL_spec _ t h
theorem chk_cols {t : Tab} (h : chk t = 0) : cols t ≤ 8 := by
  cases t with
  | nil => simp [cols]
  | cons r t => have := chk_row h r (List.mem_cons_self ..); omega
theorem cols_get (t : Tab) (h : 0 < t.length) : cols t = t[0].length := by unfold cols; rw [head_get t h]

theorem tables_columns_spec (t : Tab) (n : Nat) (hn : 1 ≤ n) : (O0 n).Φ i_tables_columns [aT t] = some (aI (cols t)) := by
  obtain ⟨m, rfl⟩ := nat_succ (n := n) (k := 0) (by omega)
  rw [tables_columns_run, tables_columns]
  cases t with
  | nil => simp [tD, cols]
  | cons r t =>
    have h0 : ¬ (((tD (r :: t)).length : Int) = 0) := by simp; omega
    simp only [xite_decide, h0, if_false, xElem_tD0 (r :: t) (by simp), Option.bind_some, List.length_singleton, Nat.le_refl, decide_true, xif_tt, getD_one, xDL_sl, length_rD, List.getElem_cons_zero]
    rfl
theorem ref08_Columns_spec (t : Tab) (n : Nat) (hn : 1 ≤ n) : (O0 n).Φ i_ref08_Columns [aT t] = some (aI (cols t)) := by
  obtain ⟨m, rfl⟩ := nat_succ (n := n) (k := 0) (by omega)
  rw [ref08_Columns_run, ref08_Columns]
  cases t with
  | nil => simp [tD, cols]
  | cons r t =>
    have h0 : ¬ (((tD (r :: t)).length : Int) = 0) := by simp; omega
    simp only [xite_decide, h0, if_false, xElem_tD0 (r :: t) (by simp), Option.bind_some, List.length_singleton, Nat.le_refl, decide_true, xif_tt, getD_one, xDL_sl, length_rD, List.getElem_cons_zero]
    rfl

/-- The place of a number among so many. -/
def plc (i : Int) (n : Nat) : Int := if 0 ≤ i ∧ i < n then i else if i < 0 ∧ -(n : Int) ≤ i then n + i else -1
theorem plc_lt (i : Int) (n : Nat) : plc i n < n := by unfold plc; split; omega; split <;> omega
theorem plc_ge (i : Int) (n : Nat) : -1 ≤ plc i n := by unfold plc; split; omega; split <;> omega

theorem tables_place_spec (i : Int) (k : Nat) (hk : k ≤ 9223372036854775807) (n : Nat) (hn : 1 ≤ n) : (O0 n).Φ i_tables_place [aI i, aI k] = some (aI (plc i k)) := by
  obtain ⟨m, rfl⟩ := nat_succ (n := n) (k := 0) (by omega)
  rw [tables_place_run, tables_place, plc]
  have hw : IntKind.i64.wrap (0 - (k : Int)) = -(k : Int) := by rw [wrap_i _ (by omega) (by omega)]; omega
  simp only [xite_decide, hw]
  by_cases h1 : 0 ≤ i
  · by_cases h2 : i < (k : Int)
    · simp [h1, h2]
    · have h3 : ¬ i < 0 := by omega
      simp [h1, h2, h3]
  · have h3 : i < 0 := by omega
    by_cases h4 : -(k : Int) ≤ i
    · have hw2 : IntKind.i64.wrap ((k : Int) + i) = (k : Int) + i := wrap_i _ (by omega) (by omega)
      simp [h1, h3, h4, hw2]
    · simp [h1, h3, h4]
theorem ref08_index_spec (i : Int) (k : Nat) (hk : k ≤ 4611686018427387903) (n : Nat) (hn : 1 ≤ n) : (O0 n).Φ i_ref08_index [aI i, aI k] = some (aI (plc i k)) := by
  obtain ⟨m, rfl⟩ := nat_succ (n := n) (k := 0) (by omega)
  rw [ref08_index_run, ref08_index, plc]
  have hw : IntKind.i64.wrap (0 - (k : Int)) = -(k : Int) := by rw [wrap_i _ (by omega) (by omega)]; omega
  simp only [xite_decide, hw]
  by_cases h1 : i < -(k : Int)
  · have h2 : ¬ 0 ≤ i := by omega
    have h3 : ¬ -(k : Int) ≤ i := by omega
    simp [h1, h2, h3]
  · by_cases h2 : (k : Int) ≤ i
    · have h3 : ¬ i < (k : Int) := by omega
      have h4 : ¬ i < 0 := by omega
      simp [h1, h2, h3, h4]
    · have hk0 : ¬ (k : Int) = 0 := by omega
      have hw2 : IntKind.i64.wrap (i + (k : Int)) = i + (k : Int) := wrap_i _ (by omega) (by omega)
      simp only [h1, h2, if_false, hk0, decide_false, Bool.not_false, xif_tt, hw2]
      by_cases h3 : 0 ≤ i
      · have h5 : Int.tmod (i + k) k = i := by rw [Int.tmod_eq_emod_of_nonneg (by omega), Int.add_emod_right, Int.emod_eq_of_lt h3 (by omega)]
        have h6 : i < (k : Int) := by omega
        simp [h3, h6, h5]
      · have h5 : Int.tmod (i + k) k = k + i := by rw [Int.tmod_eq_emod_of_nonneg (by omega), Int.emod_eq_of_lt (by omega) (by omega)]; omega
        have h6 : i < 0 := by omega
        have h7 : -(k : Int) ≤ i := by omega
        simp [h3, h6, h7, h5]

/-! Rows as blocks. -/
abbrev sC (s : Txt) : C := .d (.s s)
theorem xOnes_rD (r : Row) : xOnes (rD r) = some (r.map D.s) := by
  induction r with
  | nil => rfl
  | cons s r ih => show (xOnes (rD r)).map _ = _; rw [ih]; rfl
theorem hCells_rD (H : Hp) (r : Row) : hCells H (.d (.sl (rD r))) = some (r.map sC) := by
  simp only [hCells, xOnes_rD, Option.map_some, List.map_map]; rfl
theorem hCells_full (H : Hp) (r : Row) : hCells H (.full (rD r)) = some (r.map sC) := by
  simp only [hCells, xOnes_rD, Option.map_some, List.map_map]; rfl
theorem xmapC_sC (H : Hp) (n : Nat) (r : Row) : xmapC (hLow H n) (r.map sC) = some (r.map D.s) := by
  induction r with
  | nil => rfl
  | cons s r ih =>
    have : hLow H n (sC s) = some (.s s) := by cases n <;> rfl
    simp only [List.map_cons, xmapC, this, ih, Option.bind_some]
theorem hLow_own {H : Hp} {k : Nat} {r : Row} {ex : Bool} (h : hGet H k = some ⟨r.map sC, ex⟩) (n : Nat) : hLow H (n + 1) (.hs k 0 r.length) = some (.sl (rD r)) := by
  simp only [hLow, h, Option.bind_some, List.drop_zero]
  rw [if_pos (by simp), List.take_of_length_le (by simp), xmapC_sC]
  simp [rD]
theorem hGet_push (H : Hp) (o : HO) : hGet (H ++ [some o]) H.length = some o := by simp [hGet]
theorem hGet_app {H : Hp} {k : Nat} {o : HO} (h : hGet H k = some o) (H' : Hp) : hGet (H ++ H') k = some o := by
  have h1 := hGet_some h
  have hlt := (List.getElem?_eq_some_iff.1 h1).1
  unfold hGet
  rw [List.getElem?_append_left hlt, h1]

/-- A row copied into a block that may grow. -/
def cpC (r : Row) (H : Hp) : C := match r with | [] => .full [] | _ :: q => .hs H.length 0 (q.length + 1)
def cpH (r : Row) (H : Hp) : Hp := match r with | [] => H | s :: q => H ++ [some ⟨(s :: q).map sC, false⟩]
theorem cp_low (r : Row) (H : Hp) (n : Nat) : hLow (cpH r H) (n + 1) (cpC r H) = some (.sl (rD r)) := by
  cases r with
  | nil => rfl
  | cons s q => exact hLow_own (hGet_push H ⟨(s :: q).map sC, false⟩) n
theorem cp_hok (r : Row) (H : Hp) : (cpC r H).hok = true := by cases r <;> rfl

theorem ref08_list_gen (c : C) (r : Row) (hr : r.length ≤ 1000) (H : Hp) (hc : hCells H c = some (r.map sC)) (Φ : Phi) (Ψ : Psi) (f : Nat) :
    ref08_list Φ Ψ f c H = some (.one (cpC r H), cpH r H) := by
  rw [ref08_list, hc]
  have hb : (([] : List (List D)).length + (r.map sC).length) * 16 ≤ 140737488355328 := by simp; omega
  simp only [Option.bind_some, hb, decide_true, xif_tt]
  cases r with
  | nil => rfl
  | cons s q => simp [hApp, xOnes, xokR, xokC, C.hok, cpC, cpH]
theorem slices_Clone_gen (c : C) (r : Row) (hr : r.length ≤ 1000) (H : Hp) (hl : hLen c = some r.length) (hc : hCells H c = some (r.map sC)) (Φ : Phi) (Ψ : Psi) (f : Nat) :
    slices_Clone_string_string Φ Ψ f c H = some (.one (cpC r H), cpH r H) := by
  rw [slices_Clone_string_string, hl, hc]
  have hb : (([] : List (List D)).length + (r.map sC).length) * 16 ≤ 140737488355328 := by simp; omega
  simp only [Option.bind_some, hb, decide_true, xif_tt]
  cases r with
  | nil => simp [xnil, xboth, hApp, isSlC, xokR, xokC, C.hok, cpC, cpH]
  | cons s q => simp [xnil, hApp, xOnes, xokR, xokC, C.hok, cpC, cpH]
theorem copy_low (r : Row) (H : Hp) : ((some (A.one (cpC r H), cpH r H) : Option (A × Hp)).bind fun p => xlowR p.2 p.1) = some (aR r) := by
  simp only [Option.bind_some, xlowR, cp_low r H 2]
theorem ref08_list_spec (r : Row) (hr : r.length ≤ 1000) (n : Nat) (hn : 1 ≤ n) : (O0 n).Φ i_ref08_list [aR r] = some (aR r) := by
  obtain ⟨m, rfl⟩ := nat_succ (n := n) (k := 0) (by omega)
  rw [ref08_list_run, ref08_list_gen _ r hr [] (hCells_rD [] r)]
  exact copy_low r []
theorem slices_Clone_spec (r : Row) (hr : r.length ≤ 1000) (n : Nat) (hn : 1 ≤ n) : (O0 n).Φ i_slices_Clone_string_string [aR r] = some (aR r) := by
  obtain ⟨m, rfl⟩ := nat_succ (n := n) (k := 0) (by omega)
  rw [slices_Clone_string_string_run, slices_Clone_gen _ r hr [] (by simp [hLen]) (hCells_rD [] r)]
  exact copy_low r []

/-! What two tables have in common. -/
theorem ref08_Texts_spec (a b : Row) (ha : a.length ≤ 1000) (n : Nat) (hn : 1002 ≤ n) : (O0 n).Φ i_ref08_Texts [aR a, aR b] = some (aB (decide (a = b))) := by
  obtain ⟨m, rfl⟩ := nat_succ (n := n) (k := 0) (by omega)
  rw [ref08_Texts_run, ref08_Texts]
  simp only [xite_decide, xite_not, length_rD]
  by_cases hl : a.length = b.length
  · have hl' : (a.length : Int) = b.length := by omega
    simp only [eq_true hl', if_true]
    refine iter_nat a.length (fun k => (rD a, rD b, (k : Int), ())) (fun k => aB (decide (a.drop k = b.drop k))) (fun k rec hk hrec => ?_) m 0 (by omega) (by omega)
    by_cases hlt : k < a.length
    · have hw := wrap_i (k + 1) (by omega) (by omega)
      have hlt' : (k : Int) < a.length := by omega
      have hlb : k < b.length := by omega
      have hr := hrec hlt
      rw [drop_some a k hlt, drop_some b k hlb]
      simp only [ref08_Texts_l0, xite_decide, xite_not, xif_decide, length_rD, hlt', if_true, xElem_rD a k hlt, xElem_rD b k hlb, Option.bind_some, List.length_singleton, Nat.le_refl, getD_one, xDS_s, hw]
      by_cases he : a[k] = b[k]
      · simp only [he, if_true, List.cons.injEq, true_and]; exact hr
      · simp only [he, if_false, List.cons.injEq, false_and, decide_false, xite_false]
    · have hlt' : ¬ (k : Int) < a.length := by omega
      rw [List.drop_of_length_le (by omega), List.drop_of_length_le (by omega)]
      simp only [ref08_Texts_l0, xite_decide, length_rD, hlt', if_false, decide_true]
  · have hl' : ¬ (a.length : Int) = b.length := by omega
    have hab : ¬ a = b := fun e => hl (by rw [e])
    simp only [hl', if_false, hab, decide_false]
theorem ref08_Same_spec (a b : Tab) (ha : a.length ≤ 1000) (hr : ∀ r ∈ a, r.length ≤ 1000) (n : Nat) (hn : 1003 ≤ n) : (O0 n).Φ i_ref08_Same [aT a, aT b] = some (aB (decide (a = b))) := by
  obtain ⟨m, rfl⟩ := nat_succ (n := n) (k := 0) (by omega)
  rw [ref08_Same_run, ref08_Same]
  simp only [xite_decide, xite_not, length_tD]
  by_cases hl : a.length = b.length
  · have hl' : (a.length : Int) = b.length := by omega
    simp only [eq_true hl', if_true]
    refine iter_nat a.length (fun k => (tD a, tD b, (k : Int), ())) (fun k => aB (decide (a.drop k = b.drop k))) (fun k rec hk hrec => ?_) m 0 (by omega) (by omega)
    by_cases hlt : k < a.length
    · have hw := wrap_i (k + 1) (by omega) (by omega)
      have hlt' : (k : Int) < a.length := by omega
      have hlb : k < b.length := by omega
      have hrr := hrec hlt
      have ht := ref08_Texts_spec a[k] b[k] (hr _ (List.getElem_mem hlt)) m (by omega)
      rw [drop_some a k hlt, drop_some b k hlb]
      simp only [ref08_Same_l0, xite_decide, xite_not, xif_decide, length_tD, hlt', if_true, xElem_tD a k hlt, xElem_tD b k hlb, Option.bind_some, List.length_singleton, Nat.le_refl, getD_one, xDL_sl, ht, xAD_d, xDB_v, hw]
      by_cases he : a[k] = b[k]
      · simp only [he, decide_true, xite_true, if_true, List.cons.injEq, true_and]; exact hrr
      · simp only [he, if_false, List.cons.injEq, false_and, decide_false, xite_false]
    · have hlt' : ¬ (k : Int) < a.length := by omega
      rw [List.drop_of_length_le (by omega), List.drop_of_length_le (by omega)]
      simp only [ref08_Same_l0, xite_decide, length_tD, hlt', if_false, decide_true]
  · have hl' : ¬ (a.length : Int) = b.length := by omega
    have hab : ¬ a = b := fun e => hl (by rw [e])
    simp only [hl', if_false, hab, decide_false]
end Go.Av
