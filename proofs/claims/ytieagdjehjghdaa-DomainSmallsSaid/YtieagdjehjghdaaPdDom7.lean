/-
  Domains: restrictions; DomainRestricts.
-/
import Derived.Test.YtieagdjehjghdaaPdDom6
set_option linter.all false
set_option linter.unusedSimpArgs false
namespace Go.Av
open Go.Proofs

def boC (t : Bool) : List D := [.v (.bool t)]
@[simp] theorem length_boC (l : Bool) : (boC l).length = 1 := rfl
@[simp] theorem boC0 (l : Bool) (x : D) : (boC l).getD 0 x = .v (.bool l) := rfl
abbrev aK (ts : List Bool) : A := .one (.d (.sl (ts.map boC)))
theorem wt_bools (n : Nat) (ds : List D) (h : WT TT0 n 33 ds) : ∃ l : List Bool, ds = [.sl (l.map boC)] ∧ l.length ≤ 9223372036854775807 := by
  obtain ⟨es, rfl, h4, m', rfl, h5⟩ := wt_slice (i := ty33) rfl rfl h
  obtain ⟨l, rfl, h6⟩ := wt_list (f := boC) (q := fun _ => True) (fun c hc => by
    obtain ⟨x, rfl⟩ := wt_bool (i := ty4) rfl rfl hc
    exact ⟨x, rfl, trivial⟩) es h5
  exact ⟨l, rfl, by simpa using h4⟩

def keepQ (a : List GV) (ks : List Bool) (q : Nat) : List GV := ((a.zip ks).take q).filterMap fun p => if p.2 then some p.1 else none
def parF (a : List GV) (i : Nat) (ax : Int) (ks : List Bool) (q : Nat) : List GV := if (i : Int) = ax then keepQ a ks q else a.take q
def outF (d : List (List GV)) (ax : Int) (ks : List Bool) (k : Nat) : List (List GV) := (List.range k).map fun i => parF (d.getD i []) i ax ks (d.getD i []).length
theorem outF_succ (d : List (List GV)) (ax : Int) (ks : List Bool) (k : Nat) (h : k < d.length) : outF d ax ks (k + 1) = outF d ax ks k ++ [parF d[k] k ax ks d[k].length] := by
  have : d.getD k [] = d[k] := by simp [h]
  simp only [outF, List.range_succ, List.map_append, List.map_singleton, this]
theorem keepQ_succ (a : List GV) (ks : List Bool) (q : Nat) (h : q < a.length) (h2 : q < ks.length) : keepQ a ks (q + 1) = if ks[q] then keepQ a ks q ++ [a[q]] else keepQ a ks q := by
  have hz : q < (a.zip ks).length := by simp; omega
  unfold keepQ
  rw [List.take_succ_eq_append_getElem hz, List.filterMap_append, List.getElem_zip]
  cases ks[q] <;> simp
theorem parF_succ_ne (a : List GV) (i : Nat) (ax : Int) (ks : List Bool) (q : Nat) (h : q < a.length) (hi : ¬ (i : Int) = ax) : parF a i ax ks (q + 1) = parF a i ax ks q ++ [a[q]] := by
  simp only [parF, if_neg hi, List.take_succ_eq_append_getElem h]
theorem parF_succ_eq (a : List GV) (i : Nat) (ax : Int) (ks : List Bool) (q : Nat) (h : q < a.length) (h2 : q < ks.length) (hi : (i : Int) = ax) : parF a i ax ks (q + 1) = if ks[q] then parF a i ax ks q ++ [a[q]] else parF a i ax ks q := by
  simp only [parF, if_pos hi, keepQ_succ a ks q h h2]
theorem keep_sub : ∀ (a : List GV) (ks : List Bool), (((a.zip ks).filterMap fun p => if p.2 then some p.1 else none) : List GV).Sublist a
  | [], _ => by simp
  | a :: l, [] => by simp
  | a :: l, b :: bs => by
    rw [List.zip_cons_cons, List.filterMap_cons]
    cases b
    · exact (keep_sub l bs).cons a
    · exact (keep_sub l bs).cons_cons a
theorem parF_sub (a : List GV) (i : Nat) (ax : Int) (ks : List Bool) (q : Nat) : (parF a i ax ks q).Sublist a := by
  unfold parF
  split
  · exact ((List.take_sublist q (a.zip ks)).filterMap _).trans (keep_sub a ks)
  · exact List.take_sublist q a
theorem wtL_sublist {a b : List GV} (h : a.Sublist b) : GV.wtL a ≤ GV.wtL b := by
  induction h with
  | slnil => exact Nat.le_refl _
  | cons x _ ih => simp only [GV.wtL]; omega
  | cons_cons x _ ih => simp only [GV.wtL]; omega
theorem parF_zero (a : List GV) (i : Nat) (ax : Int) (ks : List Bool) : parF a i ax ks 0 = [] := by simp [parF, keepQ]

/-- The restricted domain, or the error. -/
def resF (d : List (List GV)) (ax : Int) (ks : List Bool) : List (List GV) × Int :=
  if ax < 0 then ([], 1) else if (d.length : Int) ≤ ax then ([], 1) else if ks.length ≠ (d.getD ax.toNat []).length then ([], 2) else (outF d ax ks d.length, 0)
abbrev twoD (x : List (List GV) × Int) : A := .tup [dA x.1, aI x.2]

theorem app_par (P : List GV) (g : GV) (hP : P.length ≤ 70) : xApp 4 56 (P.map GV.cells).length (P.map GV.cells) [[D.v (.int .i64 g.ty), D.v (.int .i64 g.num), D.s g.text, D.sl (g.items.map GV.cells)]] = some ((P ++ [g]).map GV.cells) := by
  unfold xApp
  rw [if_pos ⟨rfl, by simp, fun c hc => by obtain ⟨g', _, rfl⟩ := List.mem_map.1 hc; exact GV.length_cells g', by simp; omega⟩, List.map_append, List.map_singleton, GV.cells_eq g]
theorem app_out (P : List (List GV)) (a : List GV) (hP : P.length ≤ 12) : xApp 1 24 (dL P).length (dL P) [[D.sl (a.map GV.cells)]] = some (dL (P ++ [a])) := by
  unfold xApp
  rw [if_pos ⟨rfl, by simp, fun c hc => by obtain ⟨g', _, rfl⟩ := List.mem_map.1 hc; rfl, by simp; omega⟩]
  simp [axC]

theorem domain_Restrict_spec (d : List (List GV)) (hs : DSm d) (ax : Int) (ks : List Bool) (n : Nat) (hn : dwt d + 8 ≤ n) : Φ0 n i_domain_Restrict [dA d, aI ax, aK ks] = some (twoD (resF d ax ks)) := by
  obtain ⟨m, rfl⟩ := nat_succ (n := n) (k := 0) (by omega)
  have hd := hs.len
  have hdl := dwt_len d
  rw [domain_Restrict_run]
  unfold resF
  by_cases h1 : ax < 0
  · simp [domain_Restrict, h1]
  · by_cases h2 : (d.length : Int) ≤ ax
    · simp [domain_Restrict, h1, h2]
    · obtain ⟨x, rfl⟩ : ∃ x : Nat, ax = x := ⟨ax.toNat, by omega⟩
      have hx : x < d.length := by omega
      have hgd : d.getD x [] = d[x] := by simp [hx]
      by_cases h3 : ks.length = d[x].length
      · have h3' : (ks.length : Int) = d[x].length := by omega
        simp only [domain_Restrict, h1, h2, h3, h3', hgd, Int.toNat_natCast, axElem d x hx, length_axC, axC0, xDL_sl, Option.bind_some, xite_decide, xite_not, xif_decide, Nat.le_refl, if_true, if_false, List.length_map, ne_eq, not_true]
        refine iter_ex' (R := A) d.length (fun k y => y = ((x : Int), ks.map boC, (), (), dL d, (d.length : Int), (k : Int), ([], ()), (dL (outF d x ks k), ()), ())) _ (fun k y rec hk hy hrec => ?_) m 0 _ (by omega) (by omega) rfl
        subst hy
        by_cases hlt : k < d.length
        · have hlt' : (k : Int) < d.length := by omega
          have hm := List.getElem_mem hlt
          have hwm := dwt_mem d _ hm
          have hal := GV.wtL_len d[k]
          have h70 := hs.ax _ hm
          have hw := wrap_i (k + 1) (by omega) (by omega)
          simp only [domain_Restrict_l0, axElem d k hlt, hlt', length_axC, axC0, xDL_sl, Option.bind_some, xite_decide, xif_decide, Nat.le_refl, if_true, List.length_map]
          refine iter_ex' (R := A) d[k].length (fun q y => y = ((x : Int), ks.map boC, (), (), (k : Int), (parF d[k] k x ks q).map GV.cells, dL d, (d.length : Int), (k : Int), d[k].map GV.cells, (d[k].length : Int), (q : Int), ([], ()), (dL (outF d x ks k), ()), ())) _ (fun q y rec2 hq hy hrec2 => ?_) m 0 _ (by omega) (by omega) (by rw [parF_zero]; rfl)
          subst hy
          have hpl : (parF d[k] k x ks q).length ≤ 70 := Nat.le_trans (parF_sub _ _ _ _ _).length_le h70
          have hol : (outF d x ks k).length ≤ 12 := by simp [outF]; omega
          by_cases hql : q < d[k].length
          · have hql' : (q : Int) < d[k].length := by omega
            have hgm := List.getElem_mem hql
            have hgw := wtL_mem _ _ hgm
            have hw2 := wrap_i (q + 1) (by omega) (by omega)
            have hcp := domain_copied_spec d[k][q] (hs.few _ hm _ hgm) m (by omega)
            have happ := app_par (parF d[k] k x ks q) d[k][q] hpl
            have hr := hrec2 _ hql rfl
            simp only [List.length_map] at happ
            by_cases hkx : (k : Int) = (x : Int)
            · have hkx' : k = x := by omega
              have hqk : q < ks.length := by rw [h3]; subst hkx'; exact hql
              have hte : xElem 1 (ks.map boC) (q : Int) = some (boC ks[q]) := xElem_map 1 boC ks q hqk length_boC
              rw [parF_succ_eq _ _ _ _ _ hql hqk hkx] at hr
              simp only [domain_Restrict_l1, hql', xElem_map 4 GV.cells d[k] q hql GV.length_cells, eq_true hkx, hte, length_boC, boC0, hcp, happ, hw2, xite_decide, xite_not, xif_decide, Option.bind_some, xADs_agg, unD_cons, unD_nil, List.getD_cons_zero, List.getD_cons_succ, List.length_cons, List.length_nil, xDL_sl, xDI_v, xDS_s, xAD_d, xDB_v, GV.length_cells, GV.cells0, GV.cells1, GV.cells2, GV.cells3, List.length_map, Nat.le_refl, if_true]
              cases hb : ks[q]
              · rw [hb] at hr; simp only [Bool.false_eq_true, if_false] at hr
                simp only [xite_false]; exact hr
              · rw [hb] at hr; simp only [if_true] at hr
                simp only [xite_true]; exact hr
            · rw [parF_succ_ne _ _ _ _ _ hql hkx] at hr
              simp only [domain_Restrict_l1, hql', xElem_map 4 GV.cells d[k] q hql GV.length_cells, eq_false hkx, hcp, happ, hw2, xite_decide, xite_not, xif_decide, Option.bind_some, xADs_agg, unD_cons, unD_nil, List.getD_cons_zero, List.getD_cons_succ, List.length_cons, List.length_nil, xDL_sl, xDI_v, xDS_s, xAD_d, xDB_v, GV.length_cells, GV.cells0, GV.cells1, GV.cells2, GV.cells3, List.length_map, Nat.le_refl, if_true, if_false]
              exact hr
          · have hql' : ¬ (q : Int) < d[k].length := by omega
            have hqe : q = d[k].length := by omega
            have happ := app_out (outF d x ks k) (parF d[k] k x ks q) hol
            simp only [List.length_map] at happ
            have hr := hrec _ hlt rfl
            rw [outF_succ d x ks k hlt, ← hqe] at hr
            simp only [domain_Restrict_l1, hql', happ, hw, xite_decide, xif_decide, List.length_map, Option.bind_some, if_true, if_false]
            exact hr
        · have hlt' : ¬ (k : Int) < d.length := by omega
          have hke : k = d.length := by omega
          simp only [domain_Restrict_l0, hlt', xite_decide, if_false]
          rw [hke]
      · have h3' : ¬ (ks.length : Int) = d[x].length := by omega
        simp only [domain_Restrict, h1, h2, h3, h3', hgd, Int.toNat_natCast, axElem d x hx, length_axC, axC0, xDL_sl, Option.bind_some, xite_decide, xite_not, xif_decide, Nat.le_refl, if_true, if_false, List.length_map, ne_eq, not_false_eq_true]
        rfl
end Go.Av
