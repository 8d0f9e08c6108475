/-
  The program's transpose; the law of the checks.
-/
import Derived.Test.YtnfbgleaodkjpaaHtFill2
set_option linter.all false
set_option linter.unusedSimpArgs false
namespace Go.Av

theorem RwP.app {H : Hp} {rc : C} {r : Row} (h : RwP (some false) H rc r) (s : Txt) (q : Row) : ∃ rc' H', hApp H rc ((s :: q).map sC) = some (rc', H') ∧ RwP (some false) H' rc' (r ++ s :: q) ∧ But rc H H' ∧ ∀ k, rc'.hid = some k → rc.hid = some k ∨ H.length ≤ k := by
  rcases h with ⟨rfl, rfl⟩ | ⟨k, rfl, h2⟩
  · refine ⟨.hs H.length 0 (q.length + 1), H ++ [some ⟨(s :: q).map sC, false⟩], by simp [hApp, xOnes], .inr ⟨H.length, rfl, hGet_push H _⟩, ⟨by simp, fun k hk _ => hGet_push_lt hk _⟩, fun k hk => by simp only [C.hid, Option.some.injEq] at hk; right; omega⟩
  · have hkl := hGet_lt h2
    refine ⟨.hs H.length 0 (r.length + (q.length + 1)), H.set k none ++ [some ⟨(r ++ s :: q).map sC, false⟩], ?_, .inr ⟨H.length, by simp, by have := hGet_push (H.set k none) ⟨(r ++ s :: q).map sC, false⟩; simpa using this⟩, ⟨by simp, fun j hj hne => ?_⟩, fun j hj => by simp only [C.hid, Option.some.injEq] at hj; right; omega⟩
    · simp only [List.map_cons, hApp, h2, Option.bind_some]
      rw [if_pos (by simp), if_neg (by simp), if_neg (by simp), if_pos trivial]
      simp [List.map_append, List.take_of_length_le]
    · rw [hGet_push_lt (by simpa using hj), hGet_set_ne (fun e => hne (by rw [e]; rfl))]

/-- The columns, so far: of so many rows, the first ones of one more. -/
def trM (t : Tab) (c i j : Nat) : Tab := (List.range c).map fun k => if k < j then colF (t.take (i + 1)) k else colF (t.take i) k
theorem trM_len (t : Tab) (c i j : Nat) : (trM t c i j).length = c := by simp [trM]
theorem trM_zero (t : Tab) (c i : Nat) : trM t c i 0 = (List.range c).map (colF (t.take i)) := by
  unfold trM; apply List.map_congr_left; intro k _; simp
theorem trM_full (t : Tab) (c i : Nat) : trM t c i c = (List.range c).map (colF (t.take (i + 1))) := by
  unfold trM; apply List.map_congr_left; intro k hk; rw [if_pos (List.mem_range.1 hk)]
theorem trM_get (t : Tab) (c i j : Nat) (h : j < c) : (trM t c i j)[j]'(by rw [trM_len]; exact h) = colF (t.take i) j := by simp [trM]
theorem trM_set (t : Tab) (c i j : Nat) (h : j < c) : (trM t c i j).set j (colF (t.take (i + 1)) j) = trM t c i (j + 1) := by
  apply List.ext_getElem?
  intro k
  rw [List.getElem?_set]
  by_cases hk : j = k
  · subst hk; simp [trM, h]
  · rw [if_neg hk]
    unfold trM
    rw [List.getElem?_map, List.getElem?_map]
    rcases Nat.lt_or_ge k c with hkc | hkc
    · rw [List.getElem?_range hkc]
      simp only [Option.map_some]
      by_cases h1 : k < j
      · rw [if_pos h1, if_pos (by omega)]
      · rw [if_neg h1, if_neg (by omega)]
    · rw [List.getElem?_eq_none (by simpa using hkc)]; rfl

theorem tables_Transpose_gen (t : Tab) (n : Nat) (hn : 1100 ≤ n) (f : Nat) (hf : 1001 ≤ f) :
    ∃ c' H', tables_Transpose (O0 n).Φ (O0 n).Ψ f (tD t) [] = some (.one c', H') ∧ RdT H' c' (trF t) := by
  have hc := tables_Check_spec t n (by omega)
  simp only [tables_Transpose, Option.bind_some, hc, xAD_d, xDI_v, xite_decide, xite_not]
  unfold trF
  by_cases h0 : chk t = 0
  · have hlen := chk_len h0
    have hrows := chk_row h0
    have hcols := chk_cols h0
    have hz1 : (0 : Int) ≤ (cols t : Int) := by omega
    have hz2 : (cols t : Int) ≤ 9223372036854775807 := by omega
    have hz3 : 24 * (cols t : Int) ≤ 281474976710656 := by omega
    simp only [h0, if_true, ne_eq, not_true, if_false, tables_columns_spec t n (by omega), Option.bind_some, xAD_d, xDI_v, hz1, hz2, hz3, decide_true, Bool.and_self, xif_tt, hPush, Int.toNat_natCast, length_tD, List.length_nil, List.nil_append]
    have key := iter_ex (R := A × Hp) t.length (fun i (x : Hp × C × List (List D) × Int × Int × Unit) => ∃ H1, x = (H1, .hs 0 0 (cols t), tD t, (t.length : Int), (i : Int), ()) ∧ MuT 0 (fun _ => some false) H1 (.hs 0 0 (cols t)) (trM t (cols t) i 0)) (fun p => ∃ c' H', p = (.one c', H') ∧ RdT H' c' ((List.range (cols t)).map (colF t)))
      (F := fun (x : Hp × C × List (List D) × Int × Int × Unit) (rec : (Hp × C × List (List D) × Int × Int × Unit) → Option (A × Hp)) => tables_Transpose_l0 (O0 n).Φ (O0 n).Ψ f (fun a b c d e => rec (a, b, c, d, e, ())) x.1 x.2.1 x.2.2.1 x.2.2.2.1 x.2.2.2.2.1)
      (fun i x rec hi hx hrec => by
        obtain ⟨H1, rfl, hm⟩ := hx
        have hok : C.hok (.hs 0 0 (cols t)) = true := rfl
        by_cases hlt : i < t.length
        · have hw := wrap_i (i + 1) (by omega) (by omega)
          have hlt' : (i : Int) < t.length := by omega
          have hrl := (hrows _ (List.getElem_mem hlt)).2.2.1
          have hA : hAddr (.d (.sl (tD t))) (i : Int) = some (.d (.pp [.sl (rD t[i])])) := hAt_tD t i hlt
          have hL : hLoad H1 (.d (.pp [.sl (rD t[i])])) = some (.d (.sl (rD t[i]))) := rfl
          have hN : hLen (.d (.sl (rD t[i]))) = some (cols t) := by simp [hLen, hrl]
          have hokr : C.hok (.d (.sl (rD t[i]))) = true := rfl
          simp only [tables_Transpose_l0, xite_decide, hlt', if_true, hA, hL, hN, Option.bind_some, hok, hokr, xif_tt]
          refine iter_ex (R := A × Hp) (cols t) (fun j (x : Hp × C × List (List D) × Int × Int × C × Int × Int × Unit) => ∃ H1, x = (H1, .hs 0 0 (cols t), tD t, (t.length : Int), (i : Int), .d (.sl (rD t[i])), (cols t : Int), (j : Int), ()) ∧ MuT 0 (fun _ => some false) H1 (.hs 0 0 (cols t)) (trM t (cols t) i j)) _
            (fun j x rec2 hj hx hrec2 => by
              obtain ⟨H1, rfl, hm⟩ := hx
              by_cases hjl : j < cols t
              · have hwj := wrap_i (j + 1) (by omega) (by omega)
                have hjl' : (j : Int) < cols t := by omega
                have hjr : j < t[i].length := by omega
                obtain ⟨p, rc, a1, a2, a3, a4, a5, _⟩ := hm.at (Nat.zero_le _) j (by rw [trM_len]; exact hjl)
                rw [trM_get t (cols t) i j hjl] at a3
                obtain ⟨rc', H2, b1, b2, b3, b4⟩ := a3.app t[i][j] []
                obtain ⟨H3, d1, d2, _⟩ := a5 (some false) H2 rc' _ b3 b2 b4
                have hgd : t[i].getD j [] = t[i][j] := by simp [hjr]
                rw [upd_const, ← hgd, ← colF_snoc t j i hlt, trM_set t (cols t) i j hjl] at d2
                have hA2 : hAddr (.d (.sl (rD t[i]))) (j : Int) = some (.d (.pp [.s t[i][j]])) := hAt_rD t[i] j hjr
                have hL2 : hLoad H1 (.d (.pp [.s t[i][j]])) = some (sC t[i][j]) := rfl
                have hcl := hCells_full H1 [t[i][j]]
                rw [show rD [t[i][j]] = [[D.s t[i][j]]] from rfl] at hcl
                have hsz : ((colF (t.take i) j).length + ([t[i][j]].map sC).length) * 16 ≤ 140737488355328 := by simp [colF]; omega
                simp only [tables_Transpose_l1, xite_decide, hjl', if_true, hA2, hL2, xS_s, Option.bind_some, a1, a2, a3.rd.len, hcl, hsz, decide_true, xif_tt, b1, d1, hok, hokr, hwj]
                exact hrec2 _ hjl ⟨H3, rfl, d2⟩
              · have hjl' : ¬ (j : Int) < cols t := by omega
                obtain rfl : j = cols t := by omega
                simp only [tables_Transpose_l1, xite_decide, hjl', if_false, hok, xif_tt, hw]
                exact hrec _ hlt ⟨H1, rfl, by rw [trM_zero, ← trM_full]; exact hm⟩) f 0 (H1, .hs 0 0 (cols t), tD t, (t.length : Int), (i : Int), .d (.sl (rD t[i])), (cols t : Int), (0 : Int), ()) (by omega) (by omega) ⟨H1, rfl, hm⟩
        · have hlt' : ¬ (i : Int) < t.length := by omega
          have hokR : xokR (.one (.hs 0 0 (cols t))) = true := rfl
          have hz := hm.rd
          rw [trM_zero, List.take_of_length_le (by omega)] at hz
          simp only [tables_Transpose_l0, xite_decide, hlt', if_false, hokR, xif_tt]
          exact ⟨_, rfl, _, H1, rfl, hz⟩) f 0 ([some ⟨List.replicate (cols t) (.full []), true⟩], .hs 0 0 (cols t), tD t, (t.length : Int), (0 : Int), ()) (by omega) (by omega)
        ⟨_, rfl, .inr ⟨0, _, true, Nat.le_refl _, by rw [trM_len], rfl, by rw [trM_len]; simp, fun i r hr => by
          have hlt : i < cols t := by have := (List.getElem?_eq_some_iff.1 hr).1; rw [trM_len] at this; exact this
          have hr0 : r = [] := by
            rw [trM_zero, List.getElem?_map, List.getElem?_range hlt] at hr
            simp only [Option.map_some, Option.some.injEq] at hr
            rw [← hr]; rfl
          exact ⟨.full [], by rw [List.getElem?_replicate, if_pos hlt], .inl ⟨hr0, rfl⟩, (fun e => by cases e), (fun q e => by cases e)⟩, fun i j ra rb q _ ha _ hq => by
          rw [List.getElem?_replicate] at ha
          split at ha
          · simp only [Option.some.injEq] at ha; subst ha; cases hq
          · cases ha⟩⟩
    obtain ⟨_, hr, c', H', rfl, h1⟩ := key
    exact ⟨c', H', hr, h1⟩
  · simp only [h0, if_false, ne_eq, not_false_eq_true, if_true]
    exact ⟨_, _, rfl, .inr (.inl ⟨rfl, rfl⟩)⟩
theorem tables_Transpose_spec (t : Tab) (n : Nat) (hn : 1101 ≤ n) : (O0 n).Φ i_tables_Transpose [aT t] = some (aT (trF t)) := by
  obtain ⟨m, rfl⟩ := nat_succ (n := n) (k := 0) (by omega)
  obtain ⟨c', H', h1, h2⟩ := tables_Transpose_gen t m (by omega) m (by omega)
  rw [tables_Transpose_run, h1, Option.bind_some]
  simp only [xlowR, h2.low 1, Option.bind_some]

theorem trF_shp (t : Tab) : (trF t).length ≤ 1000 ∧ ∀ r ∈ trF t, r.length ≤ 1000 := by
  unfold trF
  by_cases h0 : chk t = 0
  · have := chk_len h0
    have := chk_cols h0
    simp only [h0, ne_eq, not_true, if_false]
    refine ⟨by simp; omega, fun r hr => ?_⟩
    obtain ⟨k, _, rfl⟩ := List.mem_map.1 hr
    simp [colF]; omega
  · simp [h0]
theorem rowN_shp {n m : Nat} (i : Nat) (hi : i < n) : ∀ (q k : Nat) (t : Tab), Shp n m t → Shp n m (rowN i q k t)
  | 0, _, _, h => h
  | q + 1, k, t, h => rowN_shp i hi q (k + 1) _ (h.step i k hi)
theorem allN_shp {n m : Nat} : ∀ (q i : Nat) (t : Tab), i + q ≤ n → Shp n m t → Shp n m (allN q i t)
  | 0, _, _, _, h => h
  | q + 1, i, t, hq, h => allN_shp q (i + 1) _ (by omega) (rowN_shp i (by omega) _ 0 t h)
theorem fillF_shp (t : Tab) : (fillF t).length ≤ 1000 ∧ ∀ r ∈ fillF t, r.length ≤ 1000 := by
  unfold fillF
  by_cases h0 : chk t = 0
  · have h1 := chk_len h0
    have h2 := chk_cols h0
    simp only [h0, ne_eq, not_true, if_false]
    have hs : Shp t.length (cols t) t := ⟨rfl, fun r hr => (chk_row h0 r hr).2.2.1⟩
    rcases Nat.eq_zero_or_pos t.length with ht | ht
    · rw [ht]; simp only [Nat.zero_sub, allN]; exact ⟨by omega, fun r hr => by have := chk_row h0 r hr; omega⟩
    · have := allN_shp (t.length - 1) 1 t (by omega) hs
      exact ⟨by rw [this.1]; omega, fun r hr => by rw [this.2 r hr]; omega⟩
  · simp [h0]

theorem tablesChecks_spec (t : Tab) (n : Nat) (hn : 1200 ≤ n) : (O0 n).Φ i_law08_TablesChecks [aT t] = some (aB true) := by
  obtain ⟨m, rfl⟩ := nat_succ (n := n) (k := 0) (by omega)
  rw [law08_TablesChecks_run]
  have e0 := awake_spec m (by omega)
  have e1 := ref08_Same_spec (trF t) (trF t) (trF_shp t).1 (trF_shp t).2 m (by omega)
  have e2 := ref08_Same_spec (fillF t) (fillF t) (fillF_shp t).1 (fillF_shp t).2 m (by omega)
  simp only [law08_TablesChecks, small_spec t m (by omega), Option.bind_some, xAD_d, xDB_v, xite_not]
  cases smallT t
  · simp only [xite_false, e0, Option.bind_some, xAD_d, xDB_v]
  · simp only [xite_true, tables_Check_spec t m (by omega), ref08_Check_spec t m (by omega), tables_Transpose_spec t m (by omega), ref08_Transpose_spec t m (by omega), tables_Fill_spec t m (by omega), ref08_Fill_spec t m (by omega), Option.bind_some, xAD_d, xDL_sl, xDI_v, xDB_v, e1, e2, e0, xite_decide, xite_true, if_true, decide_true]
end Go.Av
