/-
  The values made of words, as both packages give them.
-/
import Derived.Test.YtieagdjehjghdaaPdFst1
set_option linter.all false
set_option linter.unusedSimpArgs false
set_option maxRecDepth 100000
namespace Go.Av
open Go.Proofs

def chv (t : Nat) (b : Bool) : GV :=
  if t = 5 then .mk 2 (if b then 1 else 0) [] [] else if t = 6 then .mk 3 0 (if b then [97] else []) [] else .mk 6 0 [] [.mk 3 0 (if b then [97] else []) []]
def chs (t : Nat) (s : List UInt8) : List GV := s.map fun c => chv t (c == 98)
theorem chs_succ (t : Nat) (s : List UInt8) (k : Nat) (h : k < s.length) : chs t (s.take (k + 1)) = chs t (s.take k) ++ [chv t (s[k] == 98)] := by
  rw [chs, List.take_succ_eq_append_getElem h, List.map_append]; rfl
theorem app_cells (P : List GV) (g : GV) (hP : P.length ≤ 70) : xApp 4 56 (P.map GV.cells).length (P.map GV.cells) [g.cells] = some ((P ++ [g]).map GV.cells) := by
  rw [← app_par P g hP, GV.cells_eq g]
theorem chs_len (t : Nat) (s : List UInt8) : (chs t s).length = s.length := by simp [chs]
def AB (s : List UInt8) : Prop := s.length ≤ 6 ∧ ∀ c ∈ s, c = 97 ∨ c = 98
theorem cell5_f : (chv 5 false).cells = [D.v (.int .i64 2), D.v (.int .i64 0), D.s [], D.sl []] := by simp [chv, GV.cells]
theorem cell5_t : (chv 5 true).cells = [D.v (.int .i64 2), D.v (.int .i64 1), D.s [], D.sl []] := by simp [chv, GV.cells]
theorem cell6_f : (chv 6 false).cells = [D.v (.int .i64 3), D.v (.int .i64 0), D.s [], D.sl []] := by simp [chv, GV.cells]
theorem cell6_t : (chv 6 true).cells = [D.v (.int .i64 3), D.v (.int .i64 0), D.s [97], D.sl []] := by simp [chv, GV.cells]
theorem cell7_f : (chv 7 false).cells = [D.v (.int .i64 6), D.v (.int .i64 0), D.s [], D.sl [[D.v (.int .i64 3), D.v (.int .i64 0), D.s [], D.sl []]]] := by simp [chv, GV.cells]
theorem cell7_t : (chv 7 true).cells = [D.v (.int .i64 6), D.v (.int .i64 0), D.s [], D.sl [[D.v (.int .i64 3), D.v (.int .i64 0), D.s [97], D.sl []]]] := by simp [chv, GV.cells]

theorem domain_made5_spec (s : List UInt8) (hs : AB s) (n : Nat) (hn : 20 ≤ n) : Φ0 n i_domain_made [aI 5, aS s] = some (aG 5 0 [] ((chs 5 s).map GV.cells)) := by
  obtain ⟨m, rfl⟩ := nat_succ (n := n) (k := 0) (by omega)
  obtain ⟨h6, hab⟩ := hs
  rw [domain_made_run, domain_made]
  have n3 : ¬ (5 : Int) = 3 := by omega
  have n8 : ¬ (5 : Int) = 8 := by omega
  simp only [n3, n8, decide_true, xif_true, xite_decide, if_false]
  refine iter_ex' (R := A) s.length (fun k x => x = ((5 : Int), (), (), (), ((0 : Int), (0 : Int), [], [], ()), ((5 : Int), (0 : Int), [], (chs 5 (s.take k)).map GV.cells, ()), (s, k), ())) _ (fun k x rec hk hx hrec => ?_) m 0 _ (by omega) (by omega) rfl
  subst hx
  by_cases hlt : k < s.length
  · have hm := hab _ (List.getElem_mem hlt)
    have hlenk : (chs 5 (s.take k)).length ≤ 70 := by rw [chs_len, List.length_take]; omega
    have t1 := value_OfText_spec [] m (by omega)
    have t2 := value_OfText_spec [97] m (by omega)
    have r := hrec _ hlt rfl
    rw [chs_succ _ s k hlt] at r
    rcases hm with hc | hc
    · have hru : runeAt s k = (97, 1) := by rw [runeAt_ascii s k hlt (by rw [hc]; decide), hc]; rfl
      have happ := app_cells (chs 5 (s.take k)) (chv 5 false) hlenk
      rw [cell5_f] at happ
      rw [hc, show ((97 : UInt8) == 98) = false from rfl] at r
      have q : ¬ ((97 : Nat) : Int) = 98 := by omega
      have i0 := value_OfInt_spec 0 m (by omega)
      have w0 : IntKind.i64.wrap (IntKind.i32.wrap (((97 : Nat) : Int) - 97)) = 0 := by decide
      have q5 : (5 : Int) = 5 := by omega
      have q6 : ¬ (5 : Int) = 6 := by omega
      simp only [domain_made_l0, hlt, hru, t1, t2, q, q5, q6, w0, i0, happ, xADs_agg, unD_cons, unD_nil, List.getD_cons_zero, List.getD_cons_succ, List.length_cons, List.length_nil, xite_decide, xif_decide, Option.bind_some, xDL_sl, xDI_v, xDS_s, xAD_d, if_true, if_false]
      exact r
    · have hru : runeAt s k = (98, 1) := by rw [runeAt_ascii s k hlt (by rw [hc]; decide), hc]; rfl
      have happ := app_cells (chs 5 (s.take k)) (chv 5 true) hlenk
      rw [cell5_t] at happ
      rw [hc, show ((98 : UInt8) == 98) = true from rfl] at r
      have q : ((98 : Nat) : Int) = 98 := by omega
      have i0 := value_OfInt_spec 1 m (by omega)
      have w0 : IntKind.i64.wrap (IntKind.i32.wrap (((98 : Nat) : Int) - 97)) = 1 := by decide
      have q5 : (5 : Int) = 5 := by omega
      have q6 : ¬ (5 : Int) = 6 := by omega
      simp only [domain_made_l0, hlt, hru, t1, t2, eq_true q, q5, q6, w0, i0, happ, xADs_agg, unD_cons, unD_nil, List.getD_cons_zero, List.getD_cons_succ, List.length_cons, List.length_nil, xite_decide, xif_decide, Option.bind_some, xDL_sl, xDI_v, xDS_s, xAD_d, if_true, if_false]
      exact r
  · simp only [domain_made_l0, hlt, xite_decide, if_false]
    rw [List.take_of_length_le (by omega)]

theorem domain_made6_spec (s : List UInt8) (hs : AB s) (n : Nat) (hn : 20 ≤ n) : Φ0 n i_domain_made [aI 6, aS s] = some (aG 6 0 [] ((chs 6 s).map GV.cells)) := by
  obtain ⟨m, rfl⟩ := nat_succ (n := n) (k := 0) (by omega)
  obtain ⟨h6, hab⟩ := hs
  rw [domain_made_run, domain_made]
  have n3 : ¬ (6 : Int) = 3 := by omega
  have n8 : ¬ (6 : Int) = 8 := by omega
  simp only [n3, n8, decide_true, xif_true, xite_decide, if_false]
  refine iter_ex' (R := A) s.length (fun k x => x = ((6 : Int), (), (), (), ((0 : Int), (0 : Int), [], [], ()), ((6 : Int), (0 : Int), [], (chs 6 (s.take k)).map GV.cells, ()), (s, k), ())) _ (fun k x rec hk hx hrec => ?_) m 0 _ (by omega) (by omega) rfl
  subst hx
  by_cases hlt : k < s.length
  · have hm := hab _ (List.getElem_mem hlt)
    have hlenk : (chs 6 (s.take k)).length ≤ 70 := by rw [chs_len, List.length_take]; omega
    have t1 := value_OfText_spec [] m (by omega)
    have t2 := value_OfText_spec [97] m (by omega)
    have r := hrec _ hlt rfl
    rw [chs_succ _ s k hlt] at r
    rcases hm with hc | hc
    · have hru : runeAt s k = (97, 1) := by rw [runeAt_ascii s k hlt (by rw [hc]; decide), hc]; rfl
      have happ := app_cells (chs 6 (s.take k)) (chv 6 false) hlenk
      rw [cell6_f] at happ
      rw [hc, show ((97 : UInt8) == 98) = false from rfl] at r
      have q : ¬ ((97 : Nat) : Int) = 98 := by omega
      have i0 := value_OfInt_spec 0 m (by omega)
      have w0 : IntKind.i64.wrap (IntKind.i32.wrap (((97 : Nat) : Int) - 97)) = 0 := by decide
      have q5 : ¬ (6 : Int) = 5 := by omega
      have q6 : (6 : Int) = 6 := by omega
      simp only [domain_made_l0, hlt, hru, t1, t2, q, q5, q6, w0, i0, happ, xADs_agg, unD_cons, unD_nil, List.getD_cons_zero, List.getD_cons_succ, List.length_cons, List.length_nil, xite_decide, xif_decide, Option.bind_some, xDL_sl, xDI_v, xDS_s, xAD_d, if_true, if_false]
      exact r
    · have hru : runeAt s k = (98, 1) := by rw [runeAt_ascii s k hlt (by rw [hc]; decide), hc]; rfl
      have happ := app_cells (chs 6 (s.take k)) (chv 6 true) hlenk
      rw [cell6_t] at happ
      rw [hc, show ((98 : UInt8) == 98) = true from rfl] at r
      have q : ((98 : Nat) : Int) = 98 := by omega
      have i0 := value_OfInt_spec 1 m (by omega)
      have w0 : IntKind.i64.wrap (IntKind.i32.wrap (((98 : Nat) : Int) - 97)) = 1 := by decide
      have q5 : ¬ (6 : Int) = 5 := by omega
      have q6 : (6 : Int) = 6 := by omega
      simp only [domain_made_l0, hlt, hru, t1, t2, eq_true q, q5, q6, w0, i0, happ, xADs_agg, unD_cons, unD_nil, List.getD_cons_zero, List.getD_cons_succ, List.length_cons, List.length_nil, xite_decide, xif_decide, Option.bind_some, xDL_sl, xDI_v, xDS_s, xAD_d, if_true, if_false]
      exact r
  · simp only [domain_made_l0, hlt, xite_decide, if_false]
    rw [List.take_of_length_le (by omega)]

theorem domain_made7_spec (s : List UInt8) (hs : AB s) (n : Nat) (hn : 20 ≤ n) : Φ0 n i_domain_made [aI 7, aS s] = some (aG 7 0 [] ((chs 7 s).map GV.cells)) := by
  obtain ⟨m, rfl⟩ := nat_succ (n := n) (k := 0) (by omega)
  obtain ⟨h6, hab⟩ := hs
  rw [domain_made_run, domain_made]
  have n3 : ¬ (7 : Int) = 3 := by omega
  have n8 : ¬ (7 : Int) = 8 := by omega
  simp only [n3, n8, decide_true, xif_true, xite_decide, if_false]
  refine iter_ex' (R := A) s.length (fun k x => x = ((7 : Int), (), (), (), ((0 : Int), (0 : Int), [], [], ()), ((7 : Int), (0 : Int), [], (chs 7 (s.take k)).map GV.cells, ()), (s, k), ())) _ (fun k x rec hk hx hrec => ?_) m 0 _ (by omega) (by omega) rfl
  subst hx
  by_cases hlt : k < s.length
  · have hm := hab _ (List.getElem_mem hlt)
    have hlenk : (chs 7 (s.take k)).length ≤ 70 := by rw [chs_len, List.length_take]; omega
    have t1 := value_OfText_spec [] m (by omega)
    have t2 := value_OfText_spec [97] m (by omega)
    have r := hrec _ hlt rfl
    rw [chs_succ _ s k hlt] at r
    rcases hm with hc | hc
    · have hru : runeAt s k = (97, 1) := by rw [runeAt_ascii s k hlt (by rw [hc]; decide), hc]; rfl
      have happ := app_cells (chs 7 (s.take k)) (chv 7 false) hlenk
      rw [cell7_f] at happ
      rw [hc, show ((97 : UInt8) == 98) = false from rfl] at r
      have q : ¬ ((97 : Nat) : Int) = 98 := by omega
      have i0 := value_OfInt_spec 0 m (by omega)
      have w0 : IntKind.i64.wrap (IntKind.i32.wrap (((97 : Nat) : Int) - 97)) = 0 := by decide
      have q5 : ¬ (7 : Int) = 5 := by omega
      have q6 : ¬ (7 : Int) = 6 := by omega
      simp only [domain_made_l0, hlt, hru, t1, t2, q, q5, q6, w0, i0, happ, xADs_agg, unD_cons, unD_nil, List.getD_cons_zero, List.getD_cons_succ, List.length_cons, List.length_nil, xite_decide, xif_decide, Option.bind_some, xDL_sl, xDI_v, xDS_s, xAD_d, if_true, if_false]
      exact r
    · have hru : runeAt s k = (98, 1) := by rw [runeAt_ascii s k hlt (by rw [hc]; decide), hc]; rfl
      have happ := app_cells (chs 7 (s.take k)) (chv 7 true) hlenk
      rw [cell7_t] at happ
      rw [hc, show ((98 : UInt8) == 98) = true from rfl] at r
      have q : ((98 : Nat) : Int) = 98 := by omega
      have i0 := value_OfInt_spec 1 m (by omega)
      have w0 : IntKind.i64.wrap (IntKind.i32.wrap (((98 : Nat) : Int) - 97)) = 1 := by decide
      have q5 : ¬ (7 : Int) = 5 := by omega
      have q6 : ¬ (7 : Int) = 6 := by omega
      simp only [domain_made_l0, hlt, hru, t1, t2, eq_true q, q5, q6, w0, i0, happ, xADs_agg, unD_cons, unD_nil, List.getD_cons_zero, List.getD_cons_succ, List.length_cons, List.length_nil, xite_decide, xif_decide, Option.bind_some, xDL_sl, xDI_v, xDS_s, xAD_d, if_true, if_false]
      exact r
  · simp only [domain_made_l0, hlt, xite_decide, if_false]
    rw [List.take_of_length_le (by omega)]

theorem ref19_ints_spec (s : List UInt8) (hs : AB s) (n : Nat) (hn : 20 ≤ n) : Φ0 n i_ref19_ints [aS s] = some (aG 5 0 [] ((chs 5 s).map GV.cells)) := by
  obtain ⟨m, rfl⟩ := nat_succ (n := n) (k := 0) (by omega)
  obtain ⟨h6, hab⟩ := hs
  rw [ref19_ints_run, ref19_ints]
  simp only [decide_true, xif_true]
  refine iter_ex' (R := A) s.length (fun k x => x = (s, (), (), (k : Int), ((0 : Int), (0 : Int), [], [], ()), ((5 : Int), (0 : Int), [], (chs 5 (s.take k)).map GV.cells, ()), ())) _ (fun k x rec hk hx hrec => ?_) m 0 _ (by omega) (by omega) rfl
  subst hx
  by_cases hlt : k < s.length
  · have hlt' : (k : Int) < s.length := by omega
    have hw := wrap_i (k + 1) (by omega) (by omega)
    have hm := hab _ (List.getElem_mem hlt)
    have hlenk : (chs 5 (s.take k)).length ≤ 70 := by rw [chs_len, List.length_take]; omega
    have r := hrec _ hlt rfl
    rw [chs_succ _ s k hlt] at r
    rcases hm with hc | hc
    · have happ := app_cells (chs 5 (s.take k)) (chv 5 false) hlenk
      rw [cell5_f] at happ
      rw [hc, show ((97 : UInt8) == 98) = false from rfl] at r
      have hix : xIdxS s (k : Int) = some 97 := by rw [xIdxS_get s k hlt, hc]
      have i0 := ref01_OfInt_spec 0 m (by omega)
      have w0 : IntKind.i64.wrap (IntKind.u8.wrap ((((97 : UInt8).toNat : Nat) : Int) - 97)) = 0 := by decide
      simp only [ref19_ints_l0, hlt', hw, hix, w0, i0, happ, xADs_agg, unD_cons, unD_nil, List.getD_cons_zero, List.getD_cons_succ, List.length_cons, List.length_nil, xite_decide, xif_decide, Option.bind_some, xDL_sl, xDI_v, xDS_s, xAD_d, if_true, if_false]
      exact r
    · have happ := app_cells (chs 5 (s.take k)) (chv 5 true) hlenk
      rw [cell5_t] at happ
      rw [hc, show ((98 : UInt8) == 98) = true from rfl] at r
      have hix : xIdxS s (k : Int) = some 98 := by rw [xIdxS_get s k hlt, hc]
      have i0 := ref01_OfInt_spec 1 m (by omega)
      have w0 : IntKind.i64.wrap (IntKind.u8.wrap ((((98 : UInt8).toNat : Nat) : Int) - 97)) = 1 := by decide
      simp only [ref19_ints_l0, hlt', hw, hix, w0, i0, happ, xADs_agg, unD_cons, unD_nil, List.getD_cons_zero, List.getD_cons_succ, List.length_cons, List.length_nil, xite_decide, xif_decide, Option.bind_some, xDL_sl, xDI_v, xDS_s, xAD_d, if_true, if_false]
      exact r
  · have hlt' : ¬ (k : Int) < s.length := by omega
    simp only [ref19_ints_l0, hlt', xite_decide, if_false]
    rw [List.take_of_length_le (by omega)]

theorem ref19_texts_spec (s : List UInt8) (hs : AB s) (n : Nat) (hn : 20 ≤ n) : Φ0 n i_ref19_texts [aS s] = some (aG 6 0 [] ((chs 6 s).map GV.cells)) := by
  obtain ⟨m, rfl⟩ := nat_succ (n := n) (k := 0) (by omega)
  obtain ⟨h6, hab⟩ := hs
  rw [ref19_texts_run, ref19_texts]
  simp only [decide_true, xif_true]
  refine iter_ex' (R := A) s.length (fun k x => x = (s, (), (), (k : Int), ((0 : Int), (0 : Int), [], [], ()), ((6 : Int), (0 : Int), [], (chs 6 (s.take k)).map GV.cells, ()), ())) _ (fun k x rec hk hx hrec => ?_) m 0 _ (by omega) (by omega) rfl
  subst hx
  by_cases hlt : k < s.length
  · have hlt' : (k : Int) < s.length := by omega
    have hw := wrap_i (k + 1) (by omega) (by omega)
    have hm := hab _ (List.getElem_mem hlt)
    have hlenk : (chs 6 (s.take k)).length ≤ 70 := by rw [chs_len, List.length_take]; omega
    have r := hrec _ hlt rfl
    rw [chs_succ _ s k hlt] at r
    rcases hm with hc | hc
    · have happ := app_cells (chs 6 (s.take k)) (chv 6 false) hlenk
      rw [cell6_f] at happ
      rw [hc, show ((97 : UInt8) == 98) = false from rfl] at r
      have hix : xIdxS s (k : Int) = some 97 := by rw [xIdxS_get s k hlt, hc]
      have i0 := ref01_OfText_spec [] m (by omega)
      have w0 : xSubS [97] 0 (IntKind.u8.wrap ((((97 : UInt8).toNat : Nat) : Int) - 97)) = some [] := by decide
      simp only [ref19_texts_l0, hlt', hw, hix, w0, i0, happ, xADs_agg, unD_cons, unD_nil, List.getD_cons_zero, List.getD_cons_succ, List.length_cons, List.length_nil, xite_decide, xif_decide, Option.bind_some, xDL_sl, xDI_v, xDS_s, xAD_d, if_true, if_false]
      exact r
    · have happ := app_cells (chs 6 (s.take k)) (chv 6 true) hlenk
      rw [cell6_t] at happ
      rw [hc, show ((98 : UInt8) == 98) = true from rfl] at r
      have hix : xIdxS s (k : Int) = some 98 := by rw [xIdxS_get s k hlt, hc]
      have i0 := ref01_OfText_spec [97] m (by omega)
      have w0 : xSubS [97] 0 (IntKind.u8.wrap ((((98 : UInt8).toNat : Nat) : Int) - 97)) = some [97] := by decide
      simp only [ref19_texts_l0, hlt', hw, hix, w0, i0, happ, xADs_agg, unD_cons, unD_nil, List.getD_cons_zero, List.getD_cons_succ, List.length_cons, List.length_nil, xite_decide, xif_decide, Option.bind_some, xDL_sl, xDI_v, xDS_s, xAD_d, if_true, if_false]
      exact r
  · have hlt' : ¬ (k : Int) < s.length := by omega
    simp only [ref19_texts_l0, hlt', xite_decide, if_false]
    rw [List.take_of_length_le (by omega)]

theorem ref19_table_spec (s : List UInt8) (hs : AB s) (n : Nat) (hn : 30 ≤ n) : Φ0 n i_ref19_table [aS s] = some (aG 7 0 [] ((chs 7 s).map GV.cells)) := by
  obtain ⟨m, rfl⟩ := nat_succ (n := n) (k := 0) (by omega)
  obtain ⟨h6, hab⟩ := hs
  rw [ref19_table_run, ref19_table]
  simp only [decide_true, xif_true]
  refine iter_ex' (R := A) s.length (fun k x => x = (s, (), (), (k : Int), ((0 : Int), (0 : Int), [], [], ()), ((7 : Int), (0 : Int), [], (chs 7 (s.take k)).map GV.cells, ()), ())) _ (fun k x rec hk hx hrec => ?_) m 0 _ (by omega) (by omega) rfl
  subst hx
  by_cases hlt : k < s.length
  · have hlt' : (k : Int) < s.length := by omega
    have hw := wrap_i (k + 1) (by omega) (by omega)
    have hm := hab _ (List.getElem_mem hlt)
    have hlenk : (chs 7 (s.take k)).length ≤ 70 := by rw [chs_len, List.length_take]; omega
    have r := hrec _ hlt rfl
    rw [chs_succ _ s k hlt] at r
    rcases hm with hc | hc
    · have happ := app_cells (chs 7 (s.take k)) (chv 7 false) hlenk
      rw [cell7_f] at happ
      rw [hc, show ((97 : UInt8) == 98) = false from rfl] at r
      have hix : xIdxS s (k : Int) = some 97 := by rw [xIdxS_get s k hlt, hc]
      have i0 := ref19_texts_spec [97] ⟨by simp, by simp⟩ m (by omega)
      have w0 : xSubS s (k : Int) ((k : Int) + 1) = some [97] := by
        unfold xSubS
        rw [if_pos ⟨by omega, by omega, by omega⟩, show ((k : Int) + 1).toNat = k + 1 by omega, Int.toNat_natCast, List.take_succ_eq_append_getElem hlt, List.drop_left' (by rw [List.length_take]; omega), hc]
      have e0 : (chs 6 [97]).map GV.cells = [[D.v (.int .i64 3), D.v (.int .i64 0), D.s [], D.sl []]] := by rw [show chs 6 [97] = [chv 6 false] from rfl, List.map_singleton, cell6_f]
      rw [e0] at i0
      simp only [ref19_table_l0, hlt', hw, w0, i0, happ, xADs_agg, unD_cons, unD_nil, List.getD_cons_zero, List.getD_cons_succ, List.length_cons, List.length_nil, xite_decide, xif_decide, Option.bind_some, xDL_sl, xDI_v, xDS_s, xAD_d, if_true, if_false]
      exact r
    · have happ := app_cells (chs 7 (s.take k)) (chv 7 true) hlenk
      rw [cell7_t] at happ
      rw [hc, show ((98 : UInt8) == 98) = true from rfl] at r
      have hix : xIdxS s (k : Int) = some 98 := by rw [xIdxS_get s k hlt, hc]
      have i0 := ref19_texts_spec [98] ⟨by simp, by simp⟩ m (by omega)
      have w0 : xSubS s (k : Int) ((k : Int) + 1) = some [98] := by
        unfold xSubS
        rw [if_pos ⟨by omega, by omega, by omega⟩, show ((k : Int) + 1).toNat = k + 1 by omega, Int.toNat_natCast, List.take_succ_eq_append_getElem hlt, List.drop_left' (by rw [List.length_take]; omega), hc]
      have e0 : (chs 6 [98]).map GV.cells = [[D.v (.int .i64 3), D.v (.int .i64 0), D.s [97], D.sl []]] := by rw [show chs 6 [98] = [chv 6 true] from rfl, List.map_singleton, cell6_t]
      rw [e0] at i0
      simp only [ref19_table_l0, hlt', hw, w0, i0, happ, xADs_agg, unD_cons, unD_nil, List.getD_cons_zero, List.getD_cons_succ, List.length_cons, List.length_nil, xite_decide, xif_decide, Option.bind_some, xDL_sl, xDI_v, xDS_s, xAD_d, if_true, if_false]
      exact r
  · have hlt' : ¬ (k : Int) < s.length := by omega
    simp only [ref19_table_l0, hlt', xite_decide, if_false]
    rw [List.take_of_length_le (by omega)]
end Go.Av
