/-
  Domains: the check; DomainChecks.
-/
import Derived.Test.YtieagdjehjghdaaPdDom5
set_option linter.all false
set_option linter.unusedSimpArgs false
namespace Go.Av
open Go.Proofs

def inC (t : Int) : List D := [.v (.int .i64 t)]
@[simp] theorem length_inC (l : Int) : (inC l).length = 1 := rfl
@[simp] theorem inC0 (l : Int) (x : D) : (inC l).getD 0 x = .v (.int .i64 l) := rfl
abbrev aT (ts : List Int) : A := .one (.d (.sl (ts.map inC)))
theorem wt_types (n : Nat) (ds : List D) (h : WT TT0 n 46 ds) : ∃ l : List Int, ds = [.sl (l.map inC)] ∧ l.length ≤ 9223372036854775807 := by
  obtain ⟨es, rfl, h4, m', rfl, h5⟩ := wt_slice (i := ty46) rfl rfl h
  obtain ⟨l, rfl, h6⟩ := wt_list (f := inC) (q := fun _ => True) (fun c hc => by
    obtain ⟨x, rfl, _⟩ := wt_int (i := ty3) rfl rfl hc
    exact ⟨x, rfl, trivial⟩) es h5
  exact ⟨l, rfl, by simpa using h4⟩

def axChk (a : List GV) (t : Int) : Int → List GV → Int
  | _, [] => 0
  | k, v :: vs => if v.chk ≠ 0 then v.chk else if v.ty ≠ t then 3 else if placeF a v 0 < k then 6 else axChk a t (k + 1) vs
def domChk (d0 : List (List GV)) : List (List GV) → List Int → Int
  | a :: d, t :: ts => if axChk a t 0 a ≠ 0 then axChk a t 0 a else domChk d0 d ts
  | _, _ => if (sizeF d0).2 ≠ 0 then 11 else if 4096 < (sizeF d0).1 then 11 else 0
def checkF (d : List (List GV)) (ts : List Int) : Int := if d.length ≠ ts.length then 2 else domChk d d ts

theorem domain_Check_spec (d : List (List GV)) (ho : DOk d) (hs : DSm d) (ts : List Int) (n : Nat) (hn : dwt d + 12 ≤ n) : Φ0 n i_domain_Check [dA d, aT ts] = some (aI (checkF d ts)) := by
  obtain ⟨m, rfl⟩ := nat_succ (n := n) (k := 0) (by omega)
  have hd := hs.len
  have hdl := dwt_len d
  have hsz := domain_Size_spec d hd hs.ax m (by omega)
  rw [domain_Check_run]
  unfold checkF
  by_cases h2 : d.length = ts.length
  · have h2' : (d.length : Int) = ts.length := by omega
    simp only [domain_Check, h2', xite_decide, xite_not, if_true, List.length_map, ne_eq, not_true, if_false, h2]
    rw [← h2']
    refine iter_ex' (R := A) d.length (fun k x => x = (ts.map inC, (), dL d, (d.length : Int), (k : Int), (dL d, ()), ()) ∧ domChk d (d.drop k) (ts.drop k) = domChk d d ts) _ (fun k x rec hk hx hrec => ?_) m 0 _ (by omega) (by omega) ⟨rfl, rfl⟩
    obtain ⟨rfl, hc⟩ := hx
    by_cases hlt : k < d.length
    · have hlt' : (k : Int) < d.length := by omega
      have htl : k < ts.length := by omega
      have hw := wrap_i (k + 1) (by omega) (by omega)
      have hm := List.getElem_mem hlt
      have hwm := dwt_mem d _ hm
      have hal := GV.wtL_len d[k]
      have h70 := hs.ax _ hm
      rw [drop_some d k hlt, drop_some ts k htl, domChk] at hc
      simp only [domain_Check_l0, axElem d k hlt, hlt', xite_decide, xif_decide, Option.bind_some, length_axC, axC0, xDL_sl, Nat.le_refl, if_true, List.length_map]
      refine iter_ex' (R := A) d[k].length (fun q x => x = (ts.map inC, (), (k : Int), d[k].map GV.cells, dL d, (d.length : Int), (k : Int), d[k].map GV.cells, (d[k].length : Int), (q : Int), (dL d, ()), ()) ∧ axChk d[k] ts[k] q (d[k].drop q) = axChk d[k] ts[k] 0 d[k]) _ (fun q x rec2 hq hx2 hrec2 => ?_) m 0 _ (by omega) (by omega) ⟨rfl, rfl⟩
      obtain ⟨rfl, hq2⟩ := hx2
      by_cases hql : q < d[k].length
      · have hql' : (q : Int) < d[k].length := by omega
        have hgm := List.getElem_mem hql
        have hgw := wtL_mem _ _ hgm
        have hw2 := wrap_i (q + 1) (by omega) (by omega)
        have hck := value_Check_spec d[k][q] (ho.ok _ hm _ hgm) m (by omega)
        have hpl := domain_place_spec d[k] d[k][q] (ho.ax _ hm) (ho.ok _ hm) (ho.ok _ hm _ hgm) m (by omega)
        have hte : xElem 1 (ts.map inC) (k : Int) = some (inC ts[k]) := xElem_map 1 inC ts k htl length_inC
        rw [drop_some d[k] q hql, axChk] at hq2
        simp only [domain_Check_l1, hql', xElem_map 4 GV.cells d[k] q hql GV.length_cells, hck, hpl, hte, hw2, xite_decide, xite_not, xif_decide, Option.bind_some, length_inC, inC0, xDL_sl, xDI_v, xDS_s, xAD_d, xDB_v, GV.length_cells, GV.cells0, GV.cells1, GV.cells2, GV.cells3, List.length_map, Nat.le_refl, if_true]
        by_cases c1 : d[k][q].chk = 0
        · rw [if_neg (by simp [c1])] at hq2
          by_cases c2 : d[k][q].ty = ts[k]
          · rw [if_neg (by simp [c2])] at hq2
            by_cases c3 : placeF d[k] d[k][q] 0 < (q : Int)
            · rw [if_pos c3] at hq2
              rw [← hq2, if_pos (by omega)] at hc
              simp only [c1, c2, c3, if_true, hc]
            · rw [if_neg c3] at hq2
              simp only [c1, c2, c3, if_true, if_false]
              exact hrec2 _ hql ⟨rfl, hq2⟩
          · rw [if_pos c2] at hq2
            rw [← hq2, if_pos (by omega)] at hc
            simp only [c1, c2, if_true, if_false, hc]
        · rw [if_pos c1] at hq2
          rw [← hq2, if_pos c1] at hc
          rw [if_neg c1, hc]
      · have hql' : ¬ (q : Int) < d[k].length := by omega
        rw [List.drop_of_length_le (by omega), axChk] at hq2
        rw [← hq2, if_neg (by simp)] at hc
        simp only [domain_Check_l1, hql', hw, xite_decide, if_false]
        exact hrec _ hlt ⟨rfl, hc⟩
    · have hlt' : ¬ (k : Int) < d.length := by omega
      rw [List.drop_of_length_le (by omega), List.drop_of_length_le (by omega), domChk] at hc
      · simp only [domain_Check_l0, hlt', hsz, xtup_tup, List.getElem?_cons_zero, List.getElem?_cons_succ, xAD_d, xDI_v, xite_decide, xite_not, if_false, Option.bind_some]
        by_cases h1 : (sizeF d).2 = 0
        · by_cases h3 : 4096 < (sizeF d).1
          · simp only [h1, h3, ne_eq, not_true, if_true, if_false] at hc ⊢
            rw [← hc]
          · simp only [h1, h3, ne_eq, not_true, if_true, if_false] at hc ⊢
            rw [← hc]
        · simp only [h1, ne_eq, not_false_eq_true, if_true, if_false] at hc ⊢
          rw [← hc]
      · simp
  · have h2' : ¬ (d.length : Int) = ts.length := by omega
    simp [domain_Check, h2, h2']

theorem ref19_Check_spec (d : List (List GV)) (ho : DOk d) (hs : DSm d) (ts : List Int) (n : Nat) (hn : dwt d + 12 ≤ n) : Φ0 n i_ref19_Check [dA d, aT ts] = some (aI (checkF d ts)) := by
  obtain ⟨m, rfl⟩ := nat_succ (n := n) (k := 0) (by omega)
  have hd := hs.len
  have hdl := dwt_len d
  have hsz := ref19_Size_spec d hd hs.ax m (by omega)
  rw [ref19_Check_run]
  unfold checkF
  by_cases h2 : d.length = ts.length
  · have h2' : (d.length : Int) = ts.length := by omega
    simp only [ref19_Check, h2', xite_decide, xite_not, if_true, List.length_map, ne_eq, not_true, if_false, h2]
    refine iter_ex' (R := A) d.length (fun k x => x = (ts.map inC, (), (k : Int), (dL d, ()), ()) ∧ domChk d (d.drop k) (ts.drop k) = domChk d d ts) _ (fun k x rec hk hx hrec => ?_) m 0 _ (by omega) (by omega) ⟨rfl, rfl⟩
    obtain ⟨rfl, hc⟩ := hx
    by_cases hlt : k < d.length
    · have hlt' : (k : Int) < d.length := by omega
      have htl : k < ts.length := by omega
      have hw := wrap_i (k + 1) (by omega) (by omega)
      have hm := List.getElem_mem hlt
      have hwm := dwt_mem d _ hm
      have hal := GV.wtL_len d[k]
      have h70 := hs.ax _ hm
      rw [drop_some d k hlt, drop_some ts k htl, domChk] at hc
      simp only [ref19_Check_l0, hlt', xite_decide, if_true, List.length_map]
      refine iter_ex' (R := A) d[k].length (fun q x => x = (ts.map inC, (), (k : Int), (q : Int), (dL d, ()), ()) ∧ axChk d[k] ts[k] q (d[k].drop q) = axChk d[k] ts[k] 0 d[k]) _ (fun q x rec2 hq hx2 hrec2 => ?_) m 0 _ (by omega) (by omega) ⟨rfl, rfl⟩
      obtain ⟨rfl, hq2⟩ := hx2
      by_cases hql : q < d[k].length
      · have hql' : (q : Int) < d[k].length := by omega
        have hgm := List.getElem_mem hql
        have hgw := wtL_mem _ _ hgm
        have hw2 := wrap_i (q + 1) (by omega) (by omega)
        have hck := ref01_Check_spec d[k][q] (ho.ok _ hm _ hgm) m (by omega)
        have hpl := ref19_Place_spec d[k] d[k][q] (ho.ax _ hm) (ho.ok _ hm) (ho.ok _ hm _ hgm) m (by omega)
        have hte : xElem 1 (ts.map inC) (k : Int) = some (inC ts[k]) := xElem_map 1 inC ts k htl length_inC
        rw [drop_some d[k] q hql, axChk] at hq2
        simp only [ref19_Check_l1, axElem d k hlt, length_axC, axC0, hql', xElem_map 4 GV.cells d[k] q hql GV.length_cells, hck, hpl, hte, hw2, xite_decide, xite_not, xif_decide, Option.bind_some, length_inC, inC0, xDL_sl, xDI_v, xDS_s, xAD_d, xDB_v, GV.length_cells, GV.cells0, GV.cells1, GV.cells2, GV.cells3, List.length_map, Nat.le_refl, if_true]
        by_cases c1 : d[k][q].chk = 0
        · rw [if_neg (by simp [c1])] at hq2
          by_cases c2 : d[k][q].ty = ts[k]
          · rw [if_neg (by simp [c2])] at hq2
            by_cases c3 : placeF d[k] d[k][q] 0 < (q : Int)
            · rw [if_pos c3] at hq2
              rw [← hq2, if_pos (by omega)] at hc
              simp only [c1, c2, c3, if_true, hc]
            · rw [if_neg c3] at hq2
              simp only [c1, c2, c3, if_true, if_false]
              exact hrec2 _ hql ⟨rfl, hq2⟩
          · rw [if_pos c2] at hq2
            rw [← hq2, if_pos (by omega)] at hc
            simp only [c1, c2, if_true, if_false, hc]
        · rw [if_pos c1] at hq2
          rw [← hq2, if_pos c1] at hc
          rw [if_neg c1, hc]
      · have hql' : ¬ (q : Int) < d[k].length := by omega
        rw [List.drop_of_length_le (by omega), axChk] at hq2
        rw [← hq2, if_neg (by simp)] at hc
        simp only [ref19_Check_l1, axElem d k hlt, length_axC, axC0, hql', hw, xite_decide, xif_decide, Option.bind_some, xDL_sl, Nat.le_refl, List.length_map, if_true, if_false]
        exact hrec _ hlt ⟨rfl, hc⟩
    · have hlt' : ¬ (k : Int) < d.length := by omega
      rw [List.drop_of_length_le (by omega), List.drop_of_length_le (by omega), domChk] at hc
      · simp only [ref19_Check_l0, hlt', hsz, List.length_map, xtup_tup, List.getElem?_cons_zero, List.getElem?_cons_succ, xAD_d, xDI_v, xite_decide, xite_not, if_false, Option.bind_some]
        by_cases h1 : (sizeF d).2 = 0
        · by_cases h3 : 4096 < (sizeF d).1
          · simp only [h1, h3, ne_eq, not_true, if_true, if_false] at hc ⊢
            rw [← hc]
          · simp only [h1, h3, ne_eq, not_true, if_true, if_false] at hc ⊢
            rw [← hc]
        · simp only [h1, ne_eq, not_false_eq_true, if_true, if_false] at hc ⊢
          rw [← hc]
      · simp
  · have h2' : ¬ (d.length : Int) = ts.length := by omega
    simp [ref19_Check, h2, h2']

theorem domainChecks_core : ∀ l, ArgsOK TT0 Try.f7.params.toList l → PCall Try.prog 7 l (.one (.d (.v (.bool true)))) := by
  intro l h
  obtain ⟨n, ds, m, es, h1, h2, rfl⟩ := args2 (t := t_Domain) (u := 46) h
  obtain ⟨d, rfl, hd⟩ := wt_dom n ds h1
  obtain ⟨t, rfl, t0⟩ := wt_types m es h2
  refine Φ0_ok (dwt d + 100) 7 _ _ ?_
  generalize hN : dwt d + 99 = N
  show Φ0 (dwt d + 99 + 1) i_law19_DomainChecks [dA d, aT t] = _
  rw [hN, law19_DomainChecks_run]
  obtain ⟨b, hb, hs⟩ := law19_small_spec d hd N (by omega)
  have e0 := alive_spec N (by omega)
  cases b
  · simp [law19_DomainChecks, hb, e0]
  · have hs := hs rfl
    have e1 := domain_Check_spec d hd hs t N (by omega)
    have e2 := ref19_Check_spec d hd hs t N (by omega)
    by_cases h20 : (20 : Int) < ((t.map inC).length : Int)
    · simp only [law19_DomainChecks, hb, e0, h20, Option.bind_some, xAD_d, xDB_v, xite_decide, xite_not, xite_true, if_true]
    · simp only [law19_DomainChecks, hb, e0, e1, e2, h20, Option.bind_some, xAD_d, xDI_v, xDB_v, xite_decide, xite_not, xite_true, if_true, if_false]
end Go.Av
