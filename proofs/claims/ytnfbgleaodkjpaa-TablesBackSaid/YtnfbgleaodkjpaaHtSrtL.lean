/-
  The law of the sorted tables: its last part by itself. Printed by a program of mine.
-/
import Derived.Test.YtnfbgleaodkjpaaHtSort2
import Derived.Test.YtnfbgleaodkjpaaHtBeside2
set_option linter.all false
set_option linter.unusedVariables false
set_option maxRecDepth 100000
namespace Go.Av
open Go.Proofs
def sortsTail (Φ : Phi) (t1 : List (List D)) (u2 : List (List D)) : Option A :=
((Φ i_tables_Stack [(A.one (C.d (D.sl t1))), (A.one (C.d (D.sl u2)))]).bind fun r55 =>
((xtup r55 0).bind fun r56 =>
((xAD r56).bind fun d57 =>
((xDL d57).bind fun l58 =>
((xtup r55 1).bind fun r59 =>
((xAD r59).bind fun d60 =>
((xDI .i64 d60).bind fun n61 =>
(xite (!decide (n61 = (0 : Int)))
((Φ i_law08_awake []).bind fun r62 =>
((xAD r62).bind fun d63 =>
((xDB d63).bind fun b64 =>
(some (A.one (C.d (D.v (.bool b64))))))))
(xite (decide (((t1).length : Int) = (0 : Int)))
((Φ i_law08_awake []).bind fun r65 =>
((xAD r65).bind fun d66 =>
((xDB d66).bind fun b67 =>
(some (A.one (C.d (D.v (.bool b67))))))))
(xite (decide (((u2).length : Int) = (0 : Int)))
((Φ i_law08_awake []).bind fun r68 =>
((xAD r68).bind fun d69 =>
((xDB d69).bind fun b70 =>
(some (A.one (C.d (D.v (.bool b70))))))))
((Φ i_tables_Transpose [(A.one (C.d (D.sl t1)))]).bind fun r71 =>
((xAD r71).bind fun d72 =>
((xDL d72).bind fun l73 =>
((Φ i_tables_Transpose [(A.one (C.d (D.sl u2)))]).bind fun r74 =>
((xAD r74).bind fun d75 =>
((xDL d75).bind fun l76 =>
((Φ i_tables_Beside [(A.one (C.d (D.sl l73))), (A.one (C.d (D.sl l76)))]).bind fun r77 =>
((xtup r77 0).bind fun r78 =>
((xAD r78).bind fun d79 =>
((xDL d79).bind fun l80 =>
((xtup r77 1).bind fun r81 =>
((xAD r81).bind fun d82 =>
((xDI .i64 d82).bind fun n83 =>
(xite (decide (n83 = (0 : Int)))
((Φ i_tables_Transpose [(A.one (C.d (D.sl l58)))]).bind fun r84 =>
((xAD r84).bind fun d85 =>
((xDL d85).bind fun l86 =>
((Φ i_ref08_Same [(A.one (C.d (D.sl l80))), (A.one (C.d (D.sl l86)))]).bind fun r87 =>
((xAD r87).bind fun d88 =>
((xDB d88).bind fun b89 =>
(xite b89
((Φ i_law08_awake []).bind fun r90 =>
((xAD r90).bind fun d91 =>
((xDB d91).bind fun b92 =>
(some (A.one (C.d (D.v (.bool b92))))))))
(some (A.one (C.d (D.v (.bool false))))))))))))
(some (A.one (C.d (D.v (.bool false)))))))))))))))))))))))))))))
theorem sorts_l0_fold (Φ : Phi) (fuel : Nat) (k0 : List (List D) → List (List D) → Int → List (List D) → Int → Option A) (t26 : List (List D)) (u27 : List (List D)) (column28 : Int) (s29 : List (List D)) (i30 : Int) : law08_TablesSorts_l0 Φ fuel k0 t26 u27 column28 s29 i30 =
(xite (decide (i30 < ((t26).length : Int)))
((xElem 1 t26 i30).bind fun c31 =>
(xif (decide (1 ≤ (c31).length))
((xDL (List.getD c31 0 (D.s []))).bind fun l32 =>
((Φ i_law08_count [(A.one (C.d (D.sl s29))), (A.one (C.d (D.sl l32)))]).bind fun r33 =>
((xAD r33).bind fun d34 =>
((xDI .i64 d34).bind fun n35 =>
((xElem 1 t26 i30).bind fun c36 =>
(xif (decide (1 ≤ (c36).length))
((xDL (List.getD c36 0 (D.s []))).bind fun l37 =>
((Φ i_law08_count [(A.one (C.d (D.sl t26))), (A.one (C.d (D.sl l37)))]).bind fun r38 =>
((xAD r38).bind fun d39 =>
((xDI .i64 d39).bind fun n40 =>
(xite (!decide (n35 = n40))
(some (A.one (C.d (D.v (.bool false)))))
((Φ i_tables_Cell [(A.one (C.d (D.sl s29))), (A.one (C.d (D.v (.int .i64 i30)))), (A.one (C.d (D.v (.int .i64 column28))))]).bind fun r41 =>
((xtup r41 0).bind fun r42 =>
((xAD r42).bind fun d43 =>
((xDS d43).bind fun s44 =>
((xtup r41 1).bind fun r45 =>
((xAD r45).bind fun d46 =>
((xDI .i64 d46).bind fun n47 =>
((Φ i_tables_Cell [(A.one (C.d (D.sl s29))), (A.one (C.d (D.v (.int .i64 (if (IntKind.i64.wrap (((s29).length : Int) - (1 : Int))) < (IntKind.i64.wrap (i30 + (1 : Int))) then (IntKind.i64.wrap (((s29).length : Int) - (1 : Int))) else (IntKind.i64.wrap (i30 + (1 : Int)))))))), (A.one (C.d (D.v (.int .i64 column28))))]).bind fun r48 =>
((xtup r48 0).bind fun r49 =>
((xAD r49).bind fun d50 =>
((xDS d50).bind fun s51 =>
((xtup r48 1).bind fun r52 =>
((xAD r52).bind fun d53 =>
((xDI .i64 d53).bind fun n54 =>
(xite (!decide (n47 = (0 : Int)))
(some (A.one (C.d (D.v (.bool false)))))
(xite (!decide (n54 = (0 : Int)))
(some (A.one (C.d (D.v (.bool false)))))
(xite (!(Op.bytesLess s44 s51 || decide ((s44 : List UInt8) = s51)))
(some (A.one (C.d (D.v (.bool false)))))
(k0 t26 u27 column28 s29 (IntKind.i64.wrap (i30 + (1 : Int))))))))))))))))))))))))))))))))))
(sortsTail Φ t26 u27)) := rfl
theorem sorts_fold (Φ : Phi) (fuel : Nat) (t1 : List (List D)) (u2 : List (List D)) (column3 : Int) : law08_TablesSorts Φ fuel t1 u2 column3 =
((Φ i_law08_small [(A.one (C.d (D.sl t1)))]).bind fun r4 =>
((xAD r4).bind fun d5 =>
((xDB d5).bind fun b6 =>
(xite (!b6)
((Φ i_law08_awake []).bind fun r7 =>
((xAD r7).bind fun d8 =>
((xDB d8).bind fun b9 =>
(some (A.one (C.d (D.v (.bool b9))))))))
((Φ i_law08_small [(A.one (C.d (D.sl u2)))]).bind fun r10 =>
((xAD r10).bind fun d11 =>
((xDB d11).bind fun b12 =>
(xite (!b12)
((Φ i_law08_awake []).bind fun r13 =>
((xAD r13).bind fun d14 =>
((xDB d14).bind fun b15 =>
(some (A.one (C.d (D.v (.bool b15))))))))
((Φ i_tables_Sort [(A.one (C.d (D.sl t1))), (A.one (C.d (D.v (.int .i64 column3))))]).bind fun r16 =>
((xtup r16 0).bind fun r17 =>
((xAD r17).bind fun d18 =>
((xDL d18).bind fun l19 =>
((xtup r16 1).bind fun r20 =>
((xAD r20).bind fun d21 =>
((xDI .i64 d21).bind fun n22 =>
(xite (decide (n22 = (0 : Int)))
(xite (!decide (((l19).length : Int) = ((t1).length : Int)))
(some (A.one (C.d (D.v (.bool false)))))
((Φ i_tables_Check [(A.one (C.d (D.sl l19)))]).bind fun r23 =>
((xAD r23).bind fun d24 =>
((xDI .i64 d24).bind fun n25 =>
(xite (!decide (n25 = (0 : Int)))
(some (A.one (C.d (D.v (.bool false)))))
(iter (fun (x : List (List D) × List (List D) × Int × List (List D) × Int × Unit) (rec : (List (List D) × List (List D) × Int × List (List D) × Int × Unit) → Option A) => law08_TablesSorts_l0 Φ fuel (fun t26 u27 column28 s29 i30 => rec (t26, u27, column28, s29, i30, ())) x.1 x.2.1 x.2.2.1 x.2.2.2.1 x.2.2.2.2.1) fuel (t1, u2, column3, l19, (0 : Int), ())))))))
(sortsTail Φ t1 u2))))))))))))))))) := rfl
end Go.Av

set_option linter.unusedSimpArgs false
namespace Go.Av

/-! How often a row occurs. -/
def cntT (t : Tab) (r : Row) : Nat := (t.filter fun q => decide (q = r)).length
theorem cntT_snoc (t : Tab) (k : Nat) (h : k < t.length) (r : Row) : cntT (t.take (k + 1)) r = cntT (t.take k) r + if t[k] = r then 1 else 0 := by
  unfold cntT
  rw [List.take_succ_eq_append_getElem h, List.filter_append, List.length_append]
  by_cases he : t[k] = r <;> simp [he]
theorem cntT_le (t : Tab) (r : Row) : cntT t r ≤ t.length := List.length_filter_le ..
theorem law08_count_spec (t : Tab) (ht : t.length ≤ 1000) (hr : ∀ q ∈ t, q.length ≤ 1000) (r : Row) (n : Nat) (hn : 1100 ≤ n) : (O0 n).Φ i_law08_count [aT t, aR r] = some (aI (cntT t r)) := by
  obtain ⟨m, rfl⟩ := nat_succ (n := n) (k := 0) (by omega)
  rw [law08_count_run, law08_count]
  refine iter_nat t.length (fun k => (tD t, rD r, (cntT (t.take k) r : Int), (k : Int), ())) (fun _ => aI (cntT t r)) (fun k rec hk hrec => ?_) m 0 (by omega) (by omega)
  by_cases hlt : k < t.length
  · have hw := wrap_i (k + 1) (by omega) (by omega)
    have hlt' : (k : Int) < t.length := by omega
    have hle := cntT_le (t.take k) r
    simp at hle
    have hw2 := wrap_i ((cntT (t.take k) r : Int) + 1) (by omega) (by omega)
    have hrr := hrec hlt
    have htx := ref08_Texts_spec t[k] r (hr _ (List.getElem_mem hlt)) m (by omega)
    have hs := cntT_snoc t k hlt r
    simp only [law08_count_l0, xite_decide, xif_decide, length_tD, hlt', if_true, xElem_tD t k hlt, Option.bind_some, List.length_singleton, Nat.le_refl, getD_one, xDL_sl, htx, xAD_d, xDB_v, hw, hw2]
    by_cases he : t[k] = r
    · rw [if_pos he] at hs
      simp only [he, if_true]
      have : ((cntT (t.take (k + 1)) r : Nat) : Int) = (cntT (t.take k) r : Int) + 1 := by omega
      rw [this] at hrr
      exact hrr
    · rw [if_neg he] at hs
      simp only [he, if_false]
      have : ((cntT (t.take (k + 1)) r : Nat) : Int) = (cntT (t.take k) r : Int) := by omega
      rw [this] at hrr
      exact hrr
  · have hlt' : ¬ (k : Int) < t.length := by omega
    simp only [law08_count_l0, xite_decide, length_tD, hlt', if_false]
    rw [List.take_of_length_le (by omega)]
theorem cntT_sort (key : Row → Txt) (t : Tab) (r : Row) : cntT (sortP key t) r = cntT t r := by
  have h := sortP_ofK key t (key r)
  have hf : ∀ l : Tab, (ofK key (key r) l).filter (fun q => decide (q = r)) = l.filter fun q => decide (q = r) := fun l => by
    unfold ofK
    rw [List.filter_filter]
    apply List.filter_congr
    intro q _
    by_cases e : q = r
    · simp [e]
    · simp [e]
  unfold cntT
  rw [← hf (sortP key t), h, hf]

/-! What a sorted table is like. -/
theorem chk_perm {t s : Tab} (h : chk t = 0) (hl : s.length = t.length) (hm : ∀ r ∈ s, r ∈ t) : chk s = 0 ∧ cols s = cols t := by
  have la := chk_len h
  have h0 : chk s = 0 := chk_of (n0 := cols t) (by omega) fun r hr => by
    obtain ⟨h1, h2, h3, h4⟩ := chk_row h r (hm r hr)
    exact ⟨h1, h2, h3, fun q hq => chkR_mem h4 q hq⟩
  refine ⟨h0, ?_⟩
  rcases Nat.eq_zero_or_pos s.length with hz | hz
  · have e1 : s = [] := List.eq_nil_of_length_eq_zero hz
    have e2 : t = [] := List.eq_nil_of_length_eq_zero (by omega)
    rw [e1, e2]
  · rw [cols_get s hz]
    exact (chk_row h _ (hm _ (List.getElem_mem hz))).2.2.1
theorem srt_le {key : Row → Txt} {s : Tab} (h : Srt key s) (i j : Nat) (hij : i ≤ j) (hj : j < s.length) : Op.bytesLess (key (s[i]'(by omega))) (key s[j]) = true ∨ key (s[i]'(by omega)) = key s[j] := by
  by_cases e : i = j
  · subst e; exact .inr rfl
  · have := List.pairwise_iff_getElem.1 h i j (by omega) hj (by omega)
    unfold klt at this
    cases h2 : Op.bytesLess (key (s[i]'(by omega))) (key s[j])
    · exact .inr (bl_tri _ _ h2 this)
    · exact .inl rfl
theorem cell_at {s : Tab} (h : chk s = 0) (i : Nat) (hi : i < s.length) (c : Int) (col : Nat) (hc : plc c (cols s) = col) : cellF s i c = (keyC col s[i], 0) := by
  have hp : plc (i : Int) s.length = i := by unfold plc; rw [if_pos (by omega)]
  have h1 : ¬ ((i : Nat) : Int) < 0 := by omega
  have h2 : ¬ ((col : Nat) : Int) < 0 := by omega
  unfold cellF
  rw [hp, hc]
  simp only [h, ne_eq, not_true, if_false, h1, h2, Int.toNat_natCast]
  simp [hi, keyC]

/-! Rows below each other are columns beside each other. -/
theorem stack_ok {t u : Tab} (h : (stackF t u).2 = 0) : bothF t u = 0 ∧ (0 < t.length → 0 < u.length → cols t = cols u) ∧ t.length + u.length ≤ 8 ∧ (stackF t u).1 = t ++ u := by
  unfold stackF at h ⊢
  by_cases h0 : bothF t u = 0
  · simp only [h0, ne_eq, not_true, if_false] at h ⊢
    by_cases h1 : 0 < t.length ∧ 0 < u.length ∧ cols t ≠ cols u
    · rw [if_pos h1] at h; cases h
    · rw [if_neg h1] at h ⊢
      by_cases h2 : 8 < t.length + u.length
      · rw [if_pos h2] at h; cases h
      · rw [if_neg h2]
        refine ⟨trivial, fun a b => ?_, by omega, rfl⟩
        rcases Nat.decEq (cols t) (cols u) with e | e
        · exact absurd ⟨a, b, e⟩ h1
        · exact e
  · simp only [h0, ne_eq, not_false_eq_true, if_true] at h
theorem trF_ok {t : Tab} (h : chk t = 0) : chk (trF t) = 0 ∧ (0 < t.length → cols (trF t) = t.length) := by
  rw [trF_range h]
  rcases Nat.eq_zero_or_pos t.length with hz | hz
  · have : t = [] := List.eq_nil_of_length_eq_zero hz
    subst this
    exact ⟨rfl, fun h => absurd h (Nat.lt_irrefl _)⟩
  · have hc := chk_cols h
    have hc1 : 1 ≤ cols t := by have := chk_row h t[0] (List.getElem_mem hz); omega
    have := (tr_some h (List.range (cols t)) (fun k hk => List.mem_range.1 hk) (by simpa using hc1) (by simpa using hc) hz).1
    refine ⟨this, fun _ => ?_⟩
    rw [cols_get _ (by simp; omega)]
    simp [colF]
theorem chk_app {t u : Tab} (h : bothF t u = 0) (hc : cols t = cols u) (hl : t.length + u.length ≤ 8) : chk (t ++ u) = 0 := by
  obtain ⟨h1, h2⟩ := both0 h
  refine chk_of (n0 := cols t) (by simpa using hl) fun r hr => ?_
  rcases List.mem_append.1 hr with h | h
  · obtain ⟨a, b, c, d⟩ := chk_row h1 r h; exact ⟨a, b, c, fun q hq => chkR_mem d q hq⟩
  · obtain ⟨a, b, c, d⟩ := chk_row h2 r h; exact ⟨a, b, by omega, fun q hq => chkR_mem d q hq⟩
theorem stack_beside {t u : Tab} (h : (stackF t u).2 = 0) (ht : 0 < t.length) (hu : 0 < u.length) : besideF (trF t) (trF u) = (trF (stackF t u).1, 0) := by
  obtain ⟨h1, h2, h3, h4⟩ := stack_ok h
  have hc := h2 ht hu
  obtain ⟨ct, cu⟩ := both0 h1
  have cx := chk_app h1 hc h3
  obtain ⟨a1, a2⟩ := trF_ok ct
  obtain ⟨b1, b2⟩ := trF_ok cu
  have hb : bothF (trF t) (trF u) = 0 := by unfold bothF; rw [a1, b1]; rfl
  have hl : (trF t).length = (trF u).length := by rw [trF_len ct, trF_len cu, hc]
  have hcc : ¬ 8 < cols (trF t) + cols (trF u) := by rw [a2 ht, b2 hu]; omega
  unfold besideF
  rw [if_neg (by rw [hb]; simp), if_neg (by simpa using hl), if_neg hcc, h4]
  congr 1
  have hcx : cols (t ++ u) = cols t := by
    rw [cols_get (t ++ u) (by simp; omega), cols_get t ht, List.getElem_append_left ht]
  rw [trF_range cx, trF_range ct, trF_range cu, hcx, ← hc]
  apply List.ext_getElem?
  intro k
  rw [List.getElem?_zipWith, List.getElem?_map, List.getElem?_map, List.getElem?_map]
  rcases Nat.lt_or_ge k (cols t) with hk | hk
  · rw [List.getElem?_range hk]
    simp [colF]
  · rw [List.getElem?_eq_none (by simpa using hk)]; rfl

theorem sortsTail_spec (t u : Tab) (m : Nat) (hm : 1300 ≤ m) : sortsTail (O0 m).Φ (tD t) (tD u) = some (aB true) := by
  have e0 := awake_spec m (by omega)
  have e1 := tables_Stack_spec t u m (by omega)
  by_cases h : (stackF t u).2 = 0
  · by_cases ht : (t.length : Int) = 0
    · simp only [sortsTail, e1, e0, Option.bind_some, xtup_tup, List.getElem?_cons_zero, List.getElem?_cons_succ, xAD_d, xDL_sl, xDI_v, xDB_v, h, xite_decide, xite_not, length_tD, ht, if_true]
    · by_cases hu : (u.length : Int) = 0
      · simp only [sortsTail, e1, e0, Option.bind_some, xtup_tup, List.getElem?_cons_zero, List.getElem?_cons_succ, xAD_d, xDL_sl, xDI_v, xDB_v, h, xite_decide, xite_not, length_tD, ht, hu, if_true, if_false]
      · have hb := stack_beside h (by omega) (by omega)
        have e2 := tables_Beside_spec (trF t) (trF u) m (by omega)
        rw [hb] at e2
        have e3 := tables_Transpose_spec (stackF t u).1 m (by omega)
        have e4 := ref08_Same_spec (trF (stackF t u).1) (trF (stackF t u).1) (trF_shp _).1 (trF_shp _).2 m (by omega)
        simp only [sortsTail, e1, e0, e2, e3, e4, tables_Transpose_spec t m (by omega), tables_Transpose_spec u m (by omega), Option.bind_some, xtup_tup, List.getElem?_cons_zero, List.getElem?_cons_succ, xAD_d, xDL_sl, xDI_v, xDB_v, h, xite_decide, xite_not, length_tD, ht, hu, if_true, if_false]
  · simp only [sortsTail, e1, e0, Option.bind_some, xtup_tup, List.getElem?_cons_zero, List.getElem?_cons_succ, xAD_d, xDL_sl, xDI_v, xDB_v, h, xite_decide, xite_not, if_false]

theorem tablesSorts_spec (t u : Tab) (c : Int) (n : Nat) (hn : 1400 ≤ n) : (O0 n).Φ i_law08_TablesSorts [aT t, aT u, aI c] = some (aB true) := by
  obtain ⟨m, rfl⟩ := nat_succ (n := n) (k := 0) (by omega)
  rw [law08_TablesSorts_run, sorts_fold]
  have e0 := awake_spec m (by omega)
  have et := sortsTail_spec t u m (by omega)
  have es := tables_Sort_spec t c m (by omega)
  simp only [small_spec t m (by omega), small_spec u m (by omega), Option.bind_some, xAD_d, xDB_v, xite_not]
  cases smallT t
  · simp only [xite_false, e0, Option.bind_some, xAD_d, xDB_v]
  cases smallT u
  · simp only [xite_true, xite_false, e0, Option.bind_some, xAD_d, xDB_v]
  simp only [xite_true, es, Option.bind_some, xtup_tup, List.getElem?_cons_zero, List.getElem?_cons_succ, xAD_d, xDL_sl, xDI_v, xite_decide]
  by_cases hs : (sortF t c).2 = 0
  · -- the table is sorted
    obtain ⟨h0, col, hcol, hS⟩ : chk t = 0 ∧ ∃ col : Nat, plc c (cols t) = col ∧ (sortF t c).1 = sortP (keyC col) t := by
      unfold sortF at hs ⊢
      by_cases h0 : chk t = 0
      · simp only [h0, ne_eq, not_true, if_false] at hs ⊢
        by_cases h1 : plc c (cols t) < 0
        · rw [if_pos h1] at hs; cases hs
        · obtain ⟨k, hk, _⟩ := plc_nat h1
          refine ⟨trivial, k, hk, ?_⟩
          rw [if_neg h1, hk]; rfl
      · simp only [h0, ne_eq, not_false_eq_true, if_true] at hs
    have la := chk_len h0
    have hlen : (sortP (keyC col) t).length = t.length := sortP_len _ _
    obtain ⟨c0, c1⟩ := chk_perm h0 hlen fun r hr => (sortP_mem _ t r).1 hr
    have hlen' : ((sortP (keyC col) t).length : Int) = t.length := by omega
    have hrow : ∀ r ∈ t, r.length ≤ 1000 := fun r hr => by have := chk_row h0 r hr; omega
    simp only [hs, if_true, hS, length_tD, eq_true hlen', xite_not, xite_decide, tables_Check_spec (sortP (keyC col) t) m (by omega), c0, Option.bind_some, xAD_d, xDI_v]
    refine iter_nat t.length (fun k => (tD t, tD u, c, tD (sortP (keyC col) t), (k : Int), ())) (fun _ => aB true) (fun k rec hk hrec => ?_) m 0 (by omega) (by omega)
    by_cases hlt : k < t.length
    · have hw := wrap_i (k + 1) (by omega) (by omega)
      have hlt' : (k : Int) < t.length := by omega
      have hrr := hrec hlt
      have hq1 := law08_count_spec t (by omega) hrow t[k] m (by omega)
      have hq2 := law08_count_spec (sortP (keyC col) t) (by omega) (fun r hr => hrow r ((sortP_mem _ t r).1 hr)) t[k] m (by omega)
      rw [cntT_sort] at hq2
      have hw1 : IntKind.i64.wrap (((sortP (keyC col) t).length : Int) - 1) = (t.length : Int) - 1 := by rw [hlen', wrap_i _ (by omega) (by omega)]
      have hmin : (if (t.length : Int) - 1 < (k : Int) + 1 then (t.length : Int) - 1 else (k : Int) + 1) = ((min (k + 1) (t.length - 1) : Nat) : Int) := by split <;> omega
      have hp1 := tables_Cell_spec (sortP (keyC col) t) k c m (by omega)
      have hp2 := tables_Cell_spec (sortP (keyC col) t) ((min (k + 1) (t.length - 1) : Nat) : Int) c m (by omega)
      rw [cell_at c0 k (by omega) c col (by rw [c1]; exact hcol)] at hp1
      rw [cell_at c0 (min (k + 1) (t.length - 1)) (by omega) c col (by rw [c1]; exact hcol)] at hp2
      have hle := srt_le (sortP_srt (keyC col) t) k (min (k + 1) (t.length - 1)) (by omega) (by omega)
      have hle' : (Op.bytesLess (keyC col ((sortP (keyC col) t)[k]'(by omega))) (keyC col ((sortP (keyC col) t)[min (k + 1) (t.length - 1)]'(by omega))) || decide (keyC col ((sortP (keyC col) t)[k]'(by omega)) = keyC col ((sortP (keyC col) t)[min (k + 1) (t.length - 1)]'(by omega)))) = true := by
        rcases hle with h | h
        · rw [h]; rfl
        · simp [h]
      simp only [sorts_l0_fold, xite_decide, xite_not, xif_decide, length_tD, hlt', if_true, xElem_tD t k hlt, Option.bind_some, List.length_singleton, Nat.le_refl, getD_one, xDL_sl, hq1, hq2, xAD_d, xDI_v, hp1, hw1, hw, hmin, hp2, xtup_tup, List.getElem?_cons_zero, List.getElem?_cons_succ, xDS_s, hle', xite_true]
      exact hrr
    · have hlt' : ¬ (k : Int) < t.length := by omega
      simp only [sorts_l0_fold, xite_decide, length_tD, hlt', if_false]
      exact et
  · simp only [hs, if_false]
    exact et
end Go.Av
