/-
  The first values of a type, as both packages give them.
-/
import Derived.Test.YtieagdjehjghdaaPdFst2
set_option linter.all false
set_option linter.unusedSimpArgs false
set_option maxRecDepth 100000
namespace Go.Av
open Go.Proofs

def intAt (i : Nat) : Int := if i % 2 = 0 then - (((i + 1) / 2 : Nat) : Int) else (((i + 1) / 2 : Nat) : Int)
def valAt (t i : Nat) : GV := match t with
  | 1 => .mk 1 (if decide ((i : Int) = 1) then 1 else 0) [] []
  | 2 => .mk 2 (intAt i) [] []
  | 3 => .mk 3 0 (wd i) []
  | 4 => .mk 4 i [] []
  | 5 => .mk 5 0 [] (chs 5 (wd i))
  | 6 => .mk 6 0 [] (chs 6 (wd i))
  | 7 => .mk 7 0 [] (chs 7 (wd i))
  | _ => .mk 8 0 (wd (i + 1)) []
def firstN (t n : Nat) : Nat := if t = 1 then min n 2 else n
def firstF (t n : Nat) : List GV := (List.range (firstN t n)).map (valAt t)
theorem firstF_len (t n : Nat) : (firstF t n).length ≤ n := by
  simp only [firstF, List.length_map, List.length_range, firstN]; split <;> omega
theorem firstF_succ (t k : Nat) (h : t ≠ 1 ∨ k < 2) : firstF t (k + 1) = firstF t k ++ [valAt t k] := by
  unfold firstF firstN
  split
  · rw [show min (k + 1) 2 = k + 1 by omega, show min k 2 = k by omega]; simp [List.range_succ]
  · simp [List.range_succ]
theorem firstF_stop (k : Nat) (h : ¬ k < 2) : firstF 1 (k + 1) = firstF 1 k := by
  simp only [firstF, firstN, if_true]; rw [show min (k + 1) 2 = 2 by omega, show min k 2 = 2 by omega]
theorem firstF_min (k : Nat) : firstF 1 (min k 2) = firstF 1 k := by
  simp only [firstF, firstN, if_true]; rw [show min (min k 2) 2 = min k 2 by omega]
theorem app_first (t k : Nat) (hk : k ≤ 64) (h : t ≠ 1 ∨ k < 2) : xApp 4 56 ((firstF t k).map GV.cells).length ((firstF t k).map GV.cells) [[D.v (.int .i64 (valAt t k).ty), D.v (.int .i64 (valAt t k).num), D.s (valAt t k).text, D.sl ((valAt t k).items.map GV.cells)]] = some ((firstF t (k + 1)).map GV.cells) := by
  rw [firstF_succ t k h]; exact app_par _ _ (by have := firstF_len t k; omega)
theorem dW_elem1 (N k : Nat) (h : k < N) (hN : N ≤ 64) : xElem 1 (dW ((WW.take (N + 1)).drop 1)) (k : Int) = some [D.s (wd (k + 1))] := by
  have hl : k < ((WW.take (N + 1)).drop 1).length := by rw [List.length_drop, List.length_take, ww_len]; omega
  have := xElem_map 1 (fun w => [D.s w]) ((WW.take (N + 1)).drop 1) k hl (fun _ => rfl)
  rw [dW, this]
  have hk : k + 1 < WW.length := by rw [ww_len]; omega
  simp [wd, hk, Nat.add_comm 1 k]
theorem dW_all (L : List (List UInt8)) (N : Nat) (h : L.length = N) : xSubL 1 (dW L) 0 (N : Int) = some (dW L) := by
  have hlen : (dW L).length = N := by rw [dW, List.length_map, h]
  unfold xSubL
  rw [if_pos ⟨fun c hc => by obtain ⟨g', _, rfl⟩ := List.mem_map.1 hc; rfl, by omega, by omega, by rw [hlen]; omega⟩]
  simp only [Int.toNat_natCast, Int.toNat_zero, List.drop_zero]
  rw [List.take_of_length_le (by omega)]
theorem L1_len (N : Nat) (hN : N ≤ 64) : ((WW.take (N + 1)).drop 1).length = N := by rw [List.length_drop, List.length_take, ww_len]; omega
theorem L0_len (N : Nat) (hN : N ≤ 64) : (WW.take N).length = N := by rw [List.length_take, ww_len]; omega
theorem wd_AB (i : Nat) : AB (wd i) := wd_ok i
theorem tmod2 (k : Nat) : Int.tmod (k : Int) 2 = ((k % 2 : Nat) : Int) := by rw [Int.tmod_eq_emod_of_nonneg (by omega)]; omega
theorem tdiv2 (k : Nat) : Int.tdiv ((k : Int) + 1) 2 = (((k + 1) / 2 : Nat) : Int) := by rw [Int.tdiv_eq_ediv_of_nonneg (by omega)]; omega
theorem made3 (i n : Nat) (hn : 20 ≤ n) : Φ0 n i_domain_made [aI 3, aS (wd i)] = some (valAt 3 i).toA := by
  obtain ⟨m, rfl⟩ := nat_succ (n := n) (k := 0) (by omega)
  have h := value_OfText_spec (wd i) m (by omega)
  rw [domain_made_run]
  simp [domain_made, h]
  exact ⟨rfl, rfl, rfl, rfl⟩
theorem made8 (i n : Nat) (hn : 20 ≤ n) : Φ0 n i_domain_made [aI 8, aS (wd (i + 1))] = some (valAt 8 i).toA := by
  obtain ⟨m, rfl⟩ := nat_succ (n := n) (k := 0) (by omega)
  have h := value_OfPattern_spec (wd (i + 1)) m (by omega)
  rw [domain_made_run]
  simp [domain_made, h]
  exact ⟨rfl, rfl, rfl, rfl⟩
theorem made5 (i n : Nat) (hn : 20 ≤ n) : Φ0 n i_domain_made [aI 5, aS (wd i)] = some (valAt 5 i).toA := domain_made5_spec (wd i) (wd_AB i) n hn
theorem made6 (i n : Nat) (hn : 20 ≤ n) : Φ0 n i_domain_made [aI 6, aS (wd i)] = some (valAt 6 i).toA := domain_made6_spec (wd i) (wd_AB i) n hn
theorem made7 (i n : Nat) (hn : 20 ≤ n) : Φ0 n i_domain_made [aI 7, aS (wd i)] = some (valAt 7 i).toA := domain_made7_spec (wd i) (wd_AB i) n hn

theorem first1 (N : Nat) (hN : N ≤ 64) (n : Nat) (hn : 100 ≤ n) : Φ0 n i_domain_first [aI 1, aI N] = some (aL (firstF 1 N)) := by
  obtain ⟨m, rfl⟩ := nat_succ (n := n) (k := 0) (by omega)
  rw [domain_first_run, domain_first]
  have hmin : (if (2 : Int) < (N : Int) then (2 : Int) else (N : Int)) = ((min N 2 : Nat) : Int) := by split <;> omega
  simp only [decide_true, xif_true, xite_decide, if_true, hmin]
  rw [← firstF_min N]
  refine iter_ex' (R := A) (min N 2) (fun k x => x = ((firstF 1 k).map GV.cells, (((min N 2) : Nat) : Int), (k : Int), ())) _ (fun k x rec hk hx hrec => ?_) m 0 _ (by omega) (by omega) rfl
  subst hx
  by_cases hlt : k < (min N 2)
  · have hlt' : (k : Int) < (((min N 2) : Nat) : Int) := by omega
    have hw := wrap_i (k + 1) (by omega) (by omega)
    have hc : _ = some (valAt 1 k).toA := value_OfBool_spec (decide ((k : Int) = 1)) m (by omega)
    have happ := app_first 1 k (by omega) (by omega)
    simp only [domain_first_l0, hlt', hw, hc, happ, xADs_agg, unD_cons, unD_nil, List.getD_cons_zero, List.getD_cons_succ, List.length_cons, List.length_nil, xite_decide, xif_decide, Option.bind_some, xDL_sl, xDI_v, xDS_s, xAD_d, if_true, if_false]
    exact hrec _ hlt rfl
  · have hlt' : ¬ (k : Int) < (((min N 2) : Nat) : Int) := by omega
    have hke : k = (min N 2) := by omega
    simp only [domain_first_l0, hlt', xite_decide, if_false]
    rw [hke]

theorem first4 (N : Nat) (hN : N ≤ 64) (n : Nat) (hn : 100 ≤ n) : Φ0 n i_domain_first [aI 4, aI N] = some (aL (firstF 4 N)) := by
  obtain ⟨m, rfl⟩ := nat_succ (n := n) (k := 0) (by omega)
  rw [domain_first_run, domain_first]
  have n1 : ¬ (4 : Int) = 1 := by omega
  simp only [n1, decide_true, xif_true, xite_decide, if_true, if_false]
  refine iter_ex' (R := A) N (fun k x => x = ((firstF 4 k).map GV.cells, ((N : Nat) : Int), (k : Int), ())) _ (fun k x rec hk hx hrec => ?_) m 0 _ (by omega) (by omega) rfl
  subst hx
  by_cases hlt : k < N
  · have hlt' : (k : Int) < ((N : Nat) : Int) := by omega
    have hw := wrap_i (k + 1) (by omega) (by omega)
    have hc : _ = some (valAt 4 k).toA := value_OfBits_spec k m (by omega)
    have happ := app_first 4 k (by omega) (by omega)
    simp only [domain_first_l1, hlt', hw, hc, happ, xADs_agg, unD_cons, unD_nil, List.getD_cons_zero, List.getD_cons_succ, List.length_cons, List.length_nil, xite_decide, xif_decide, Option.bind_some, xDL_sl, xDI_v, xDS_s, xAD_d, if_true, if_false]
    exact hrec _ hlt rfl
  · have hlt' : ¬ (k : Int) < ((N : Nat) : Int) := by omega
    have hke : k = N := by omega
    simp only [domain_first_l1, hlt', xite_decide, if_false]
    rw [hke]

theorem first2 (N : Nat) (hN : N ≤ 64) (n : Nat) (hn : 100 ≤ n) : Φ0 n i_domain_first [aI 2, aI N] = some (aL (firstF 2 N)) := by
  obtain ⟨m, rfl⟩ := nat_succ (n := n) (k := 0) (by omega)
  rw [domain_first_run, domain_first]
  have n1 : ¬ (2 : Int) = 1 := by omega
  have n4 : ¬ (2 : Int) = 4 := by omega
  simp only [n1, n4, decide_true, xif_true, xite_decide, if_true, if_false]
  refine iter_ex' (R := A) N (fun k x => x = ((firstF 2 k).map GV.cells, (N : Int), (k : Int), ())) _ (fun k x rec hk hx hrec => ?_) m 0 _ (by omega) (by omega) rfl
  subst hx
  by_cases hlt : k < N
  · have hlt' : (k : Int) < (N : Int) := by omega
    have hw := wrap_i (k + 1) (by omega) (by omega)
    have hw2 := wrap_i (((k + 1) / 2 : Nat) : Int) (by omega) (by omega)
    have hw3 := wrap_i (0 - (((k + 1) / 2 : Nat) : Int)) (by omega) (by omega)
    have happ := app_first 2 k (by omega) (by omega)
    by_cases he : k % 2 = 0
    · have he' : ((k % 2 : Nat) : Int) = 0 := by omega
      have hc : Φ0 m i_value_OfInt [aI (0 - (((k + 1) / 2 : Nat) : Int))] = some (valAt 2 k).toA := by
        rw [value_OfInt_spec _ m (by omega)]; simp [valAt, intAt, he]
      simp only [domain_first_l2, hlt', hw, tmod2, tdiv2, hw2, hw3, eq_true he', hc, happ, xADs_agg, unD_cons, unD_nil, List.getD_cons_zero, List.getD_cons_succ, List.length_cons, List.length_nil, xite_decide, xif_decide, Option.bind_some, xDL_sl, xDI_v, xDS_s, xAD_d, if_true, if_false]
      exact hrec _ hlt rfl
    · have he' : ¬ ((k % 2 : Nat) : Int) = 0 := by omega
      have hc : Φ0 m i_value_OfInt [aI (((k + 1) / 2 : Nat) : Int)] = some (valAt 2 k).toA := by
        rw [value_OfInt_spec _ m (by omega)]; simp [valAt, intAt, he]
      simp only [domain_first_l2, hlt', hw, tmod2, tdiv2, hw2, he', hc, happ, xADs_agg, unD_cons, unD_nil, List.getD_cons_zero, List.getD_cons_succ, List.length_cons, List.length_nil, xite_decide, xif_decide, Option.bind_some, xDL_sl, xDI_v, xDS_s, xAD_d, if_true, if_false]
      exact hrec _ hlt rfl
  · have hlt' : ¬ (k : Int) < (N : Int) := by omega
    have hke : k = N := by omega
    simp only [domain_first_l2, hlt', xite_decide, if_false]
    rw [hke]

theorem first3 (N : Nat) (hN : N ≤ 64) (n : Nat) (hn : 100 ≤ n) : Φ0 n i_domain_first [aI 3, aI N] = some (aL (firstF 3 N)) := by
  obtain ⟨m, rfl⟩ := nat_succ (n := n) (k := 0) (by omega)
  rw [domain_first_run, domain_first]
  have n1 : ¬ (3 : Int) = 1 := by omega
  have n4 : ¬ (3 : Int) = 4 := by omega
  have n2 : ¬ (3 : Int) = 2 := by omega
  have hw0 := wrap_i (N + 1) (by omega) (by omega)
  have hlet : Φ0 m i_domain_letters [aI ((N : Int) + 1)] = some (.one (.d (.sl (dW (WW.take (N + 1)))))) := domain_letters_spec (N + 1) (by omega) (by omega) m (by omega)
  have n8 : ¬ (3 : Int) = 8 := by omega
  have hs2 : xSubL 1 (dW (WW.take (N + 1))) 0 (N : Int) = some (dW (WW.take N)) := dW_sub (N + 1) 0 N (by omega) (by omega) (by omega)
  have hdl : ((dW (WW.take N)).length : Int) = N := by rw [dW_len _ (by omega)]
  simp only [n1, n4, n2, n8, hw0, hlet, hs2, hdl, decide_true, xif_true, xite_decide, if_true, if_false, Option.bind_some, xAD_d, xDL_sl]
  refine iter_ex' (R := A) N (fun k x => x = ((3 : Int), (firstF 3 k).map GV.cells, dW (WW.take N), (N : Int), (k : Int), ())) _ (fun k x rec hk hx hrec => ?_) m 0 _ (by omega) (by omega) rfl
  subst hx
  by_cases hlt : k < N
  · have hlt' : (k : Int) < (N : Int) := by omega
    have hw := wrap_i (k + 1) (by omega) (by omega)
    have hel := dW_elem N k hlt (by omega)
    have hc := made3 k m (by omega)
    have happ := app_first 3 k (by omega) (by omega)
    have h11 : ∀ w : List UInt8, 1 ≤ [D.s w].length := fun w => by simp
    simp only [domain_first_l3, hlt', hw, hel, h11, hc, happ, xADs_agg, unD_cons, unD_nil, List.getD_cons_zero, List.getD_cons_succ, List.length_cons, List.length_nil, xite_decide, xif_decide, Option.bind_some, xDL_sl, xDI_v, xDS_s, xAD_d, if_true, if_false]
    exact hrec _ hlt rfl
  · have hlt' : ¬ (k : Int) < (N : Int) := by omega
    have hke : k = N := by omega
    simp only [domain_first_l3, hlt', xite_decide, if_false]
    rw [hke]

theorem first5 (N : Nat) (hN : N ≤ 64) (n : Nat) (hn : 100 ≤ n) : Φ0 n i_domain_first [aI 5, aI N] = some (aL (firstF 5 N)) := by
  obtain ⟨m, rfl⟩ := nat_succ (n := n) (k := 0) (by omega)
  rw [domain_first_run, domain_first]
  have n1 : ¬ (5 : Int) = 1 := by omega
  have n4 : ¬ (5 : Int) = 4 := by omega
  have n2 : ¬ (5 : Int) = 2 := by omega
  have hw0 := wrap_i (N + 1) (by omega) (by omega)
  have hlet : Φ0 m i_domain_letters [aI ((N : Int) + 1)] = some (.one (.d (.sl (dW (WW.take (N + 1)))))) := domain_letters_spec (N + 1) (by omega) (by omega) m (by omega)
  have n8 : ¬ (5 : Int) = 8 := by omega
  have hs2 : xSubL 1 (dW (WW.take (N + 1))) 0 (N : Int) = some (dW (WW.take N)) := dW_sub (N + 1) 0 N (by omega) (by omega) (by omega)
  have hdl : ((dW (WW.take N)).length : Int) = N := by rw [dW_len _ (by omega)]
  simp only [n1, n4, n2, n8, hw0, hlet, hs2, hdl, decide_true, xif_true, xite_decide, if_true, if_false, Option.bind_some, xAD_d, xDL_sl]
  refine iter_ex' (R := A) N (fun k x => x = ((5 : Int), (firstF 5 k).map GV.cells, dW (WW.take N), (N : Int), (k : Int), ())) _ (fun k x rec hk hx hrec => ?_) m 0 _ (by omega) (by omega) rfl
  subst hx
  by_cases hlt : k < N
  · have hlt' : (k : Int) < (N : Int) := by omega
    have hw := wrap_i (k + 1) (by omega) (by omega)
    have hel := dW_elem N k hlt (by omega)
    have hc := made5 k m (by omega)
    have happ := app_first 5 k (by omega) (by omega)
    have h11 : ∀ w : List UInt8, 1 ≤ [D.s w].length := fun w => by simp
    simp only [domain_first_l3, hlt', hw, hel, h11, hc, happ, xADs_agg, unD_cons, unD_nil, List.getD_cons_zero, List.getD_cons_succ, List.length_cons, List.length_nil, xite_decide, xif_decide, Option.bind_some, xDL_sl, xDI_v, xDS_s, xAD_d, if_true, if_false]
    exact hrec _ hlt rfl
  · have hlt' : ¬ (k : Int) < (N : Int) := by omega
    have hke : k = N := by omega
    simp only [domain_first_l3, hlt', xite_decide, if_false]
    rw [hke]

theorem first6 (N : Nat) (hN : N ≤ 64) (n : Nat) (hn : 100 ≤ n) : Φ0 n i_domain_first [aI 6, aI N] = some (aL (firstF 6 N)) := by
  obtain ⟨m, rfl⟩ := nat_succ (n := n) (k := 0) (by omega)
  rw [domain_first_run, domain_first]
  have n1 : ¬ (6 : Int) = 1 := by omega
  have n4 : ¬ (6 : Int) = 4 := by omega
  have n2 : ¬ (6 : Int) = 2 := by omega
  have hw0 := wrap_i (N + 1) (by omega) (by omega)
  have hlet : Φ0 m i_domain_letters [aI ((N : Int) + 1)] = some (.one (.d (.sl (dW (WW.take (N + 1)))))) := domain_letters_spec (N + 1) (by omega) (by omega) m (by omega)
  have n8 : ¬ (6 : Int) = 8 := by omega
  have hs2 : xSubL 1 (dW (WW.take (N + 1))) 0 (N : Int) = some (dW (WW.take N)) := dW_sub (N + 1) 0 N (by omega) (by omega) (by omega)
  have hdl : ((dW (WW.take N)).length : Int) = N := by rw [dW_len _ (by omega)]
  simp only [n1, n4, n2, n8, hw0, hlet, hs2, hdl, decide_true, xif_true, xite_decide, if_true, if_false, Option.bind_some, xAD_d, xDL_sl]
  refine iter_ex' (R := A) N (fun k x => x = ((6 : Int), (firstF 6 k).map GV.cells, dW (WW.take N), (N : Int), (k : Int), ())) _ (fun k x rec hk hx hrec => ?_) m 0 _ (by omega) (by omega) rfl
  subst hx
  by_cases hlt : k < N
  · have hlt' : (k : Int) < (N : Int) := by omega
    have hw := wrap_i (k + 1) (by omega) (by omega)
    have hel := dW_elem N k hlt (by omega)
    have hc := made6 k m (by omega)
    have happ := app_first 6 k (by omega) (by omega)
    have h11 : ∀ w : List UInt8, 1 ≤ [D.s w].length := fun w => by simp
    simp only [domain_first_l3, hlt', hw, hel, h11, hc, happ, xADs_agg, unD_cons, unD_nil, List.getD_cons_zero, List.getD_cons_succ, List.length_cons, List.length_nil, xite_decide, xif_decide, Option.bind_some, xDL_sl, xDI_v, xDS_s, xAD_d, if_true, if_false]
    exact hrec _ hlt rfl
  · have hlt' : ¬ (k : Int) < (N : Int) := by omega
    have hke : k = N := by omega
    simp only [domain_first_l3, hlt', xite_decide, if_false]
    rw [hke]

theorem first7 (N : Nat) (hN : N ≤ 64) (n : Nat) (hn : 100 ≤ n) : Φ0 n i_domain_first [aI 7, aI N] = some (aL (firstF 7 N)) := by
  obtain ⟨m, rfl⟩ := nat_succ (n := n) (k := 0) (by omega)
  rw [domain_first_run, domain_first]
  have n1 : ¬ (7 : Int) = 1 := by omega
  have n4 : ¬ (7 : Int) = 4 := by omega
  have n2 : ¬ (7 : Int) = 2 := by omega
  have hw0 := wrap_i (N + 1) (by omega) (by omega)
  have hlet : Φ0 m i_domain_letters [aI ((N : Int) + 1)] = some (.one (.d (.sl (dW (WW.take (N + 1)))))) := domain_letters_spec (N + 1) (by omega) (by omega) m (by omega)
  have n8 : ¬ (7 : Int) = 8 := by omega
  have hs2 : xSubL 1 (dW (WW.take (N + 1))) 0 (N : Int) = some (dW (WW.take N)) := dW_sub (N + 1) 0 N (by omega) (by omega) (by omega)
  have hdl : ((dW (WW.take N)).length : Int) = N := by rw [dW_len _ (by omega)]
  simp only [n1, n4, n2, n8, hw0, hlet, hs2, hdl, decide_true, xif_true, xite_decide, if_true, if_false, Option.bind_some, xAD_d, xDL_sl]
  refine iter_ex' (R := A) N (fun k x => x = ((7 : Int), (firstF 7 k).map GV.cells, dW (WW.take N), (N : Int), (k : Int), ())) _ (fun k x rec hk hx hrec => ?_) m 0 _ (by omega) (by omega) rfl
  subst hx
  by_cases hlt : k < N
  · have hlt' : (k : Int) < (N : Int) := by omega
    have hw := wrap_i (k + 1) (by omega) (by omega)
    have hel := dW_elem N k hlt (by omega)
    have hc := made7 k m (by omega)
    have happ := app_first 7 k (by omega) (by omega)
    have h11 : ∀ w : List UInt8, 1 ≤ [D.s w].length := fun w => by simp
    simp only [domain_first_l3, hlt', hw, hel, h11, hc, happ, xADs_agg, unD_cons, unD_nil, List.getD_cons_zero, List.getD_cons_succ, List.length_cons, List.length_nil, xite_decide, xif_decide, Option.bind_some, xDL_sl, xDI_v, xDS_s, xAD_d, if_true, if_false]
    exact hrec _ hlt rfl
  · have hlt' : ¬ (k : Int) < (N : Int) := by omega
    have hke : k = N := by omega
    simp only [domain_first_l3, hlt', xite_decide, if_false]
    rw [hke]

theorem first8 (N : Nat) (hN : N ≤ 64) (n : Nat) (hn : 100 ≤ n) : Φ0 n i_domain_first [aI 8, aI N] = some (aL (firstF 8 N)) := by
  obtain ⟨m, rfl⟩ := nat_succ (n := n) (k := 0) (by omega)
  rw [domain_first_run, domain_first]
  have n1 : ¬ (8 : Int) = 1 := by omega
  have n4 : ¬ (8 : Int) = 4 := by omega
  have n2 : ¬ (8 : Int) = 2 := by omega
  have hw0 := wrap_i (N + 1) (by omega) (by omega)
  have hlet : Φ0 m i_domain_letters [aI ((N : Int) + 1)] = some (.one (.d (.sl (dW (WW.take (N + 1)))))) := domain_letters_spec (N + 1) (by omega) (by omega) m (by omega)
  have hs1 : xSubL 1 (dW (WW.take (N + 1))) 1 ((dW (WW.take (N + 1))).length : Int) = some (dW ((WW.take (N + 1)).drop 1)) := by
    rw [dW_len _ (by omega)]; exact dW_sub (N + 1) 1 (N + 1) (by omega) (by omega) (by omega)
  have hs2 := dW_all ((WW.take (N + 1)).drop 1) N (L1_len N hN)
  have hdl : ((dW ((WW.take (N + 1)).drop 1)).length : Int) = N := by rw [dW, List.length_map, L1_len N hN]
  simp only [n1, n4, n2, hw0, hlet, hs1, hs2, hdl, decide_true, xif_true, xite_decide, if_true, if_false, Option.bind_some, xAD_d, xDL_sl]
  refine iter_ex' (R := A) N (fun k x => x = ((8 : Int), (firstF 8 k).map GV.cells, dW ((WW.take (N + 1)).drop 1), (N : Int), (k : Int), ())) _ (fun k x rec hk hx hrec => ?_) m 0 _ (by omega) (by omega) rfl
  subst hx
  by_cases hlt : k < N
  · have hlt' : (k : Int) < (N : Int) := by omega
    have hw := wrap_i (k + 1) (by omega) (by omega)
    have hel := dW_elem1 N k hlt hN
    have hc := made8 k m (by omega)
    have happ := app_first 8 k (by omega) (by omega)
    have h11 : ∀ w : List UInt8, 1 ≤ [D.s w].length := fun w => by simp
    simp only [domain_first_l3, hlt', hw, hel, h11, hc, happ, xADs_agg, unD_cons, unD_nil, List.getD_cons_zero, List.getD_cons_succ, List.length_cons, List.length_nil, xite_decide, xif_decide, Option.bind_some, xDL_sl, xDI_v, xDS_s, xAD_d, if_true, if_false]
    exact hrec _ hlt rfl
  · have hlt' : ¬ (k : Int) < (N : Int) := by omega
    have hke : k = N := by omega
    simp only [domain_first_l3, hlt', xite_decide, if_false]
    rw [hke]

theorem First1 (N : Nat) (hN : N ≤ 64) (n : Nat) (hn : 100 ≤ n) : Φ0 n i_ref19_First [aI 1, aI N] = some (aL (firstF 1 N)) := by
  obtain ⟨m, rfl⟩ := nat_succ (n := n) (k := 0) (by omega)
  rw [ref19_First_run, ref19_First]
  have hwd : Φ0 m i_ref19_words [aI N, aB (decide ((1 : Int) = 8))] = some (.one (.d (.sl (dW (WW.take N))))) := ref19_words_spec N (decide ((1 : Int) = 8)) hN m (by omega)
  simp only [hwd, decide_true, xif_true, Option.bind_some, xAD_d, xDL_sl]
  refine iter_ex' (R := A) N (fun k x => x = ((1 : Int), (N : Int), (firstF 1 k).map GV.cells, dW (WW.take N), (k : Int), ())) _ (fun k x rec hk hx hrec => ?_) m 0 _ (by omega) (by omega) rfl
  subst hx
  by_cases hlt : k < N
  · have hlt' : (k : Int) < (N : Int) := by omega
    have hw := wrap_i (k + 1) (by omega) (by omega)
    have h11 : ∀ w : List UInt8, 1 ≤ [D.s w].length := fun w => by simp
    have hr := hrec _ hlt rfl
    by_cases h2 : (k : Int) < 2
    · have hc : _ = some (valAt 1 k).toA := ref01_OfBool_spec (decide ((k : Int) = 1)) m (by omega)
      have happ := app_first 1 k (by omega) (by omega)
      simp only [ref19_First_l0, hlt', h2, hw, hc, happ, xADs_agg, unD_cons, unD_nil, List.getD_cons_zero, List.getD_cons_succ, List.length_cons, List.length_nil, xite_decide, xif_decide, Option.bind_some, xDL_sl, xDI_v, xDS_s, xAD_d, if_true, if_false]
      exact hr
    · rw [firstF_stop k (by omega)] at hr
      simp only [ref19_First_l0, hlt', h2, hw, xADs_agg, unD_cons, unD_nil, List.getD_cons_zero, List.getD_cons_succ, List.length_cons, List.length_nil, xite_decide, xif_decide, Option.bind_some, xDL_sl, xDI_v, xDS_s, xAD_d, if_true, if_false]
      exact hr
  · have hlt' : ¬ (k : Int) < (N : Int) := by omega
    have hke : k = N := by omega
    simp only [ref19_First_l0, hlt', xite_decide, if_false]
    rw [hke]

theorem First2 (N : Nat) (hN : N ≤ 64) (n : Nat) (hn : 100 ≤ n) : Φ0 n i_ref19_First [aI 2, aI N] = some (aL (firstF 2 N)) := by
  obtain ⟨m, rfl⟩ := nat_succ (n := n) (k := 0) (by omega)
  rw [ref19_First_run, ref19_First]
  have hwd : Φ0 m i_ref19_words [aI N, aB (decide ((2 : Int) = 8))] = some (.one (.d (.sl (dW (WW.take N))))) := ref19_words_spec N (decide ((2 : Int) = 8)) hN m (by omega)
  simp only [hwd, decide_true, xif_true, Option.bind_some, xAD_d, xDL_sl]
  refine iter_ex' (R := A) N (fun k x => x = ((2 : Int), (N : Int), (firstF 2 k).map GV.cells, dW (WW.take N), (k : Int), ())) _ (fun k x rec hk hx hrec => ?_) m 0 _ (by omega) (by omega) rfl
  subst hx
  have n1 : ¬ (2 : Int) = 1 := by omega
  by_cases hlt : k < N
  · have hlt' : (k : Int) < (N : Int) := by omega
    have hw := wrap_i (k + 1) (by omega) (by omega)
    have h11 : ∀ w : List UInt8, 1 ≤ [D.s w].length := fun w => by simp
    have hr := hrec _ hlt rfl
    have happ := app_first 2 k (by omega) (by omega)
    have hw2 := wrap_i (((k + 1) / 2 : Nat) : Int) (by omega) (by omega)
    have hm := wrap_i (2 * ((k % 2 : Nat) : Int)) (by omega) (by omega)
    have hm2 := wrap_i (2 * ((k % 2 : Nat) : Int) - 1) (by omega) (by omega)
    have hmul : (((k + 1) / 2 : Nat) : Int) * (2 * ((k % 2 : Nat) : Int) - 1) = intAt k := by
      unfold intAt
      rcases Nat.mod_two_eq_zero_or_one k with e | e <;> simp [e]
    have hib : -100 ≤ intAt k ∧ intAt k ≤ 100 := by unfold intAt; split <;> omega
    have hm3 := wrap_i (intAt k) (by omega) (by omega)
    have hc : Φ0 m i_ref01_OfInt [aI (intAt k)] = some (valAt 2 k).toA := ref01_OfInt_spec _ m (by omega)
    simp only [ref19_First_l0, hlt', n1, hw, tmod2, tdiv2, hw2, hm, hm2, hmul, hm3, hc, happ, xADs_agg, unD_cons, unD_nil, List.getD_cons_zero, List.getD_cons_succ, List.length_cons, List.length_nil, xite_decide, xif_decide, Option.bind_some, xDL_sl, xDI_v, xDS_s, xAD_d, if_true, if_false]
    exact hr
  · have hlt' : ¬ (k : Int) < (N : Int) := by omega
    have hke : k = N := by omega
    simp only [ref19_First_l0, hlt', xite_decide, if_false]
    rw [hke]

theorem First3 (N : Nat) (hN : N ≤ 64) (n : Nat) (hn : 100 ≤ n) : Φ0 n i_ref19_First [aI 3, aI N] = some (aL (firstF 3 N)) := by
  obtain ⟨m, rfl⟩ := nat_succ (n := n) (k := 0) (by omega)
  rw [ref19_First_run, ref19_First]
  have hwd : Φ0 m i_ref19_words [aI N, aB (decide ((3 : Int) = 8))] = some (.one (.d (.sl (dW (WW.take N))))) := ref19_words_spec N (decide ((3 : Int) = 8)) hN m (by omega)
  simp only [hwd, decide_true, xif_true, Option.bind_some, xAD_d, xDL_sl]
  refine iter_ex' (R := A) N (fun k x => x = ((3 : Int), (N : Int), (firstF 3 k).map GV.cells, dW (WW.take N), (k : Int), ())) _ (fun k x rec hk hx hrec => ?_) m 0 _ (by omega) (by omega) rfl
  subst hx
  have n1 : ¬ (3 : Int) = 1 := by omega
  have n2 : ¬ (3 : Int) = 2 := by omega
  have n4 : ¬ (3 : Int) = 4 := by omega
  by_cases hlt : k < N
  · have hlt' : (k : Int) < (N : Int) := by omega
    have hw := wrap_i (k + 1) (by omega) (by omega)
    have h11 : ∀ w : List UInt8, 1 ≤ [D.s w].length := fun w => by simp
    have hr := hrec _ hlt rfl
    have hc : _ = some (valAt 3 k).toA := ref01_OfText_spec (wd k) m (by omega)
    have happ := app_first 3 k (by omega) (by omega)
    have hel := dW_elem N k hlt (by omega)
    simp only [ref19_First_l0, hlt', n1, n2, n4, hw, hel, h11, hc, happ, xADs_agg, unD_cons, unD_nil, List.getD_cons_zero, List.getD_cons_succ, List.length_cons, List.length_nil, xite_decide, xif_decide, Option.bind_some, xDL_sl, xDI_v, xDS_s, xAD_d, if_true, if_false]
    exact hr
  · have hlt' : ¬ (k : Int) < (N : Int) := by omega
    have hke : k = N := by omega
    simp only [ref19_First_l0, hlt', xite_decide, if_false]
    rw [hke]

theorem First4 (N : Nat) (hN : N ≤ 64) (n : Nat) (hn : 100 ≤ n) : Φ0 n i_ref19_First [aI 4, aI N] = some (aL (firstF 4 N)) := by
  obtain ⟨m, rfl⟩ := nat_succ (n := n) (k := 0) (by omega)
  rw [ref19_First_run, ref19_First]
  have hwd : Φ0 m i_ref19_words [aI N, aB (decide ((4 : Int) = 8))] = some (.one (.d (.sl (dW (WW.take N))))) := ref19_words_spec N (decide ((4 : Int) = 8)) hN m (by omega)
  simp only [hwd, decide_true, xif_true, Option.bind_some, xAD_d, xDL_sl]
  refine iter_ex' (R := A) N (fun k x => x = ((4 : Int), (N : Int), (firstF 4 k).map GV.cells, dW (WW.take N), (k : Int), ())) _ (fun k x rec hk hx hrec => ?_) m 0 _ (by omega) (by omega) rfl
  subst hx
  have n1 : ¬ (4 : Int) = 1 := by omega
  have n2 : ¬ (4 : Int) = 2 := by omega
  by_cases hlt : k < N
  · have hlt' : (k : Int) < (N : Int) := by omega
    have hw := wrap_i (k + 1) (by omega) (by omega)
    have h11 : ∀ w : List UInt8, 1 ≤ [D.s w].length := fun w => by simp
    have hr := hrec _ hlt rfl
    have hc : _ = some (valAt 4 k).toA := ref01_OfBits_spec k m (by omega)
    have happ := app_first 4 k (by omega) (by omega)
    have hel := dW_elem N k hlt (by omega)
    simp only [ref19_First_l0, hlt', n1, n2, hw, hel, h11, hc, happ, xADs_agg, unD_cons, unD_nil, List.getD_cons_zero, List.getD_cons_succ, List.length_cons, List.length_nil, xite_decide, xif_decide, Option.bind_some, xDL_sl, xDI_v, xDS_s, xAD_d, if_true, if_false]
    exact hr
  · have hlt' : ¬ (k : Int) < (N : Int) := by omega
    have hke : k = N := by omega
    simp only [ref19_First_l0, hlt', xite_decide, if_false]
    rw [hke]

theorem First5 (N : Nat) (hN : N ≤ 64) (n : Nat) (hn : 100 ≤ n) : Φ0 n i_ref19_First [aI 5, aI N] = some (aL (firstF 5 N)) := by
  obtain ⟨m, rfl⟩ := nat_succ (n := n) (k := 0) (by omega)
  rw [ref19_First_run, ref19_First]
  have hwd : Φ0 m i_ref19_words [aI N, aB (decide ((5 : Int) = 8))] = some (.one (.d (.sl (dW (WW.take N))))) := ref19_words_spec N (decide ((5 : Int) = 8)) hN m (by omega)
  simp only [hwd, decide_true, xif_true, Option.bind_some, xAD_d, xDL_sl]
  refine iter_ex' (R := A) N (fun k x => x = ((5 : Int), (N : Int), (firstF 5 k).map GV.cells, dW (WW.take N), (k : Int), ())) _ (fun k x rec hk hx hrec => ?_) m 0 _ (by omega) (by omega) rfl
  subst hx
  have n1 : ¬ (5 : Int) = 1 := by omega
  have n2 : ¬ (5 : Int) = 2 := by omega
  have n4 : ¬ (5 : Int) = 4 := by omega
  have n3 : ¬ (5 : Int) = 3 := by omega
  have n8 : ¬ (5 : Int) = 8 := by omega
  by_cases hlt : k < N
  · have hlt' : (k : Int) < (N : Int) := by omega
    have hw := wrap_i (k + 1) (by omega) (by omega)
    have h11 : ∀ w : List UInt8, 1 ≤ [D.s w].length := fun w => by simp
    have hr := hrec _ hlt rfl
    have hc : _ = some (valAt 5 k).toA := ref19_ints_spec (wd k) (wd_AB k) m (by omega)
    have happ := app_first 5 k (by omega) (by omega)
    have hel := dW_elem N k hlt (by omega)
    simp only [ref19_First_l0, hlt', n1, n2, n4, n3, n8, hw, hel, h11, hc, happ, xADs_agg, unD_cons, unD_nil, List.getD_cons_zero, List.getD_cons_succ, List.length_cons, List.length_nil, xite_decide, xif_decide, Option.bind_some, xDL_sl, xDI_v, xDS_s, xAD_d, if_true, if_false]
    exact hr
  · have hlt' : ¬ (k : Int) < (N : Int) := by omega
    have hke : k = N := by omega
    simp only [ref19_First_l0, hlt', xite_decide, if_false]
    rw [hke]

theorem First6 (N : Nat) (hN : N ≤ 64) (n : Nat) (hn : 100 ≤ n) : Φ0 n i_ref19_First [aI 6, aI N] = some (aL (firstF 6 N)) := by
  obtain ⟨m, rfl⟩ := nat_succ (n := n) (k := 0) (by omega)
  rw [ref19_First_run, ref19_First]
  have hwd : Φ0 m i_ref19_words [aI N, aB (decide ((6 : Int) = 8))] = some (.one (.d (.sl (dW (WW.take N))))) := ref19_words_spec N (decide ((6 : Int) = 8)) hN m (by omega)
  simp only [hwd, decide_true, xif_true, Option.bind_some, xAD_d, xDL_sl]
  refine iter_ex' (R := A) N (fun k x => x = ((6 : Int), (N : Int), (firstF 6 k).map GV.cells, dW (WW.take N), (k : Int), ())) _ (fun k x rec hk hx hrec => ?_) m 0 _ (by omega) (by omega) rfl
  subst hx
  have n1 : ¬ (6 : Int) = 1 := by omega
  have n2 : ¬ (6 : Int) = 2 := by omega
  have n4 : ¬ (6 : Int) = 4 := by omega
  have n3 : ¬ (6 : Int) = 3 := by omega
  have n8 : ¬ (6 : Int) = 8 := by omega
  have n5 : ¬ (6 : Int) = 5 := by omega
  by_cases hlt : k < N
  · have hlt' : (k : Int) < (N : Int) := by omega
    have hw := wrap_i (k + 1) (by omega) (by omega)
    have h11 : ∀ w : List UInt8, 1 ≤ [D.s w].length := fun w => by simp
    have hr := hrec _ hlt rfl
    have hc : _ = some (valAt 6 k).toA := ref19_texts_spec (wd k) (wd_AB k) m (by omega)
    have happ := app_first 6 k (by omega) (by omega)
    have hel := dW_elem N k hlt (by omega)
    simp only [ref19_First_l0, hlt', n1, n2, n4, n3, n8, n5, hw, hel, h11, hc, happ, xADs_agg, unD_cons, unD_nil, List.getD_cons_zero, List.getD_cons_succ, List.length_cons, List.length_nil, xite_decide, xif_decide, Option.bind_some, xDL_sl, xDI_v, xDS_s, xAD_d, if_true, if_false]
    exact hr
  · have hlt' : ¬ (k : Int) < (N : Int) := by omega
    have hke : k = N := by omega
    simp only [ref19_First_l0, hlt', xite_decide, if_false]
    rw [hke]

theorem First7 (N : Nat) (hN : N ≤ 64) (n : Nat) (hn : 100 ≤ n) : Φ0 n i_ref19_First [aI 7, aI N] = some (aL (firstF 7 N)) := by
  obtain ⟨m, rfl⟩ := nat_succ (n := n) (k := 0) (by omega)
  rw [ref19_First_run, ref19_First]
  have hwd : Φ0 m i_ref19_words [aI N, aB (decide ((7 : Int) = 8))] = some (.one (.d (.sl (dW (WW.take N))))) := ref19_words_spec N (decide ((7 : Int) = 8)) hN m (by omega)
  simp only [hwd, decide_true, xif_true, Option.bind_some, xAD_d, xDL_sl]
  refine iter_ex' (R := A) N (fun k x => x = ((7 : Int), (N : Int), (firstF 7 k).map GV.cells, dW (WW.take N), (k : Int), ())) _ (fun k x rec hk hx hrec => ?_) m 0 _ (by omega) (by omega) rfl
  subst hx
  have n1 : ¬ (7 : Int) = 1 := by omega
  have n2 : ¬ (7 : Int) = 2 := by omega
  have n4 : ¬ (7 : Int) = 4 := by omega
  have n3 : ¬ (7 : Int) = 3 := by omega
  have n8 : ¬ (7 : Int) = 8 := by omega
  have n5 : ¬ (7 : Int) = 5 := by omega
  have n6 : ¬ (7 : Int) = 6 := by omega
  by_cases hlt : k < N
  · have hlt' : (k : Int) < (N : Int) := by omega
    have hw := wrap_i (k + 1) (by omega) (by omega)
    have h11 : ∀ w : List UInt8, 1 ≤ [D.s w].length := fun w => by simp
    have hr := hrec _ hlt rfl
    have hc : _ = some (valAt 7 k).toA := ref19_table_spec (wd k) (wd_AB k) m (by omega)
    have happ := app_first 7 k (by omega) (by omega)
    have hel := dW_elem N k hlt (by omega)
    simp only [ref19_First_l0, hlt', n1, n2, n4, n3, n8, n5, n6, hw, hel, h11, hc, happ, xADs_agg, unD_cons, unD_nil, List.getD_cons_zero, List.getD_cons_succ, List.length_cons, List.length_nil, xite_decide, xif_decide, Option.bind_some, xDL_sl, xDI_v, xDS_s, xAD_d, if_true, if_false]
    exact hr
  · have hlt' : ¬ (k : Int) < (N : Int) := by omega
    have hke : k = N := by omega
    simp only [ref19_First_l0, hlt', xite_decide, if_false]
    rw [hke]

theorem First8 (N : Nat) (hN : N ≤ 64) (n : Nat) (hn : 100 ≤ n) : Φ0 n i_ref19_First [aI 8, aI N] = some (aL (firstF 8 N)) := by
  obtain ⟨m, rfl⟩ := nat_succ (n := n) (k := 0) (by omega)
  rw [ref19_First_run, ref19_First]
  have hwd : Φ0 m i_ref19_words [aI N, aB true] = some (.one (.d (.sl (dW ((WW.take (N + 1)).drop 1))))) := ref19_words_spec N true hN m (by omega)
  simp only [hwd, decide_true, xif_true, Option.bind_some, xAD_d, xDL_sl]
  refine iter_ex' (R := A) N (fun k x => x = ((8 : Int), (N : Int), (firstF 8 k).map GV.cells, dW ((WW.take (N + 1)).drop 1), (k : Int), ())) _ (fun k x rec hk hx hrec => ?_) m 0 _ (by omega) (by omega) rfl
  subst hx
  have n1 : ¬ (8 : Int) = 1 := by omega
  have n2 : ¬ (8 : Int) = 2 := by omega
  have n4 : ¬ (8 : Int) = 4 := by omega
  have n3 : ¬ (8 : Int) = 3 := by omega
  by_cases hlt : k < N
  · have hlt' : (k : Int) < (N : Int) := by omega
    have hw := wrap_i (k + 1) (by omega) (by omega)
    have h11 : ∀ w : List UInt8, 1 ≤ [D.s w].length := fun w => by simp
    have hr := hrec _ hlt rfl
    have hc : _ = some (valAt 8 k).toA := ref01_OfPattern_spec (wd (k + 1)) m (by omega)
    have happ := app_first 8 k (by omega) (by omega)
    have hel := dW_elem1 N k hlt hN
    simp only [ref19_First_l0, hlt', n1, n2, n4, n3, hw, hel, h11, hc, happ, xADs_agg, unD_cons, unD_nil, List.getD_cons_zero, List.getD_cons_succ, List.length_cons, List.length_nil, xite_decide, xif_decide, Option.bind_some, xDL_sl, xDI_v, xDS_s, xAD_d, if_true, if_false]
    exact hr
  · have hlt' : ¬ (k : Int) < (N : Int) := by omega
    have hke : k = N := by omega
    simp only [ref19_First_l0, hlt', xite_decide, if_false]
    rw [hke]
end Go.Av
