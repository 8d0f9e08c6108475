/-
  Domains: restrictions, as the document says; DomainRestricts.
-/
import Derived.Test.YtieagdjehjghdaaPdDom7
set_option linter.all false
set_option linter.unusedSimpArgs false
namespace Go.Av
open Go.Proofs

theorem ref19_Restrict_spec (d : List (List GV)) (hs : DSm d) (ax : Int) (ks : List Bool) (n : Nat) (hn : dwt d + 8 ≤ n) : Φ0 n i_ref19_Restrict [dA d, aI ax, aK ks] = some (twoD (resF d ax ks)) := by
  obtain ⟨m, rfl⟩ := nat_succ (n := n) (k := 0) (by omega)
  have hd := hs.len
  have hdl := dwt_len d
  rw [ref19_Restrict_run]
  unfold resF
  by_cases h1 : ax < 0
  · simp [ref19_Restrict, h1]
  · by_cases h2 : (d.length : Int) ≤ ax
    · simp [ref19_Restrict, h1, h2]
    · obtain ⟨x, rfl⟩ : ∃ x : Nat, ax = x := ⟨ax.toNat, by omega⟩
      have hx : x < d.length := by omega
      have hgd : d.getD x [] = d[x] := by simp [hx]
      by_cases h3 : ks.length = d[x].length
      · have h3' : (ks.length : Int) = d[x].length := by omega
        simp only [ref19_Restrict, h1, h2, h3, h3', hgd, Int.toNat_natCast, axElem d x hx, length_axC, axC0, xDL_sl, Option.bind_some, xite_decide, xite_not, xif_decide, Nat.le_refl, if_true, if_false, List.length_map, ne_eq, not_true]
        refine iter_ex' (R := A) d.length (fun k y => y = ((x : Int), ks.map boC, (), (), (), (k : Int), (dL d, ()), ([], ()), (dL (outF d x ks k), ()), ())) _ (fun k y rec hk hy hrec => ?_) m 0 _ (by omega) (by omega) rfl
        subst hy
        by_cases hlt : k < d.length
        · have hlt' : (k : Int) < d.length := by omega
          have hm := List.getElem_mem hlt
          have hwm := dwt_mem d _ hm
          have hal := GV.wtL_len d[k]
          have h70 := hs.ax _ hm
          have hw := wrap_i (k + 1) (by omega) (by omega)
          simp only [ref19_Restrict_l0, hlt', xite_decide, xif_decide, if_true, List.length_map]
          refine iter_ex' (R := A) d[k].length (fun q y => y = ((x : Int), ks.map boC, (), (), (), (k : Int), (parF d[k] k x ks q).map GV.cells, (q : Int), (dL d, ()), ([], ()), (dL (outF d x ks k), ()), ())) _ (fun q y rec2 hq hy hrec2 => ?_) m 0 _ (by omega) (by omega) (by rw [parF_zero]; rfl)
          subst hy
          have hpl : (parF d[k] k x ks q).length ≤ 70 := Nat.le_trans (parF_sub _ _ _ _ _).length_le h70
          have hol : (outF d x ks k).length ≤ 12 := by simp [outF]; omega
          by_cases hql : q < d[k].length
          · have hql' : (q : Int) < d[k].length := by omega
            have hgm := List.getElem_mem hql
            have hgw := wtL_mem _ _ hgm
            have hw2 := wrap_i (q + 1) (by omega) (by omega)
            have happ := app_par (parF d[k] k x ks q) d[k][q] hpl
            have hr := hrec2 _ hql rfl
            simp only [List.length_map] at happ
            by_cases hkx : (k : Int) = (x : Int)
            · have hkx' : k = x := by omega
              have hqk : q < ks.length := by rw [h3]; subst hkx'; exact hql
              have hte : xElem 1 (ks.map boC) (q : Int) = some (boC ks[q]) := xElem_map 1 boC ks q hqk length_boC
              rw [parF_succ_eq _ _ _ _ _ hql hqk hkx] at hr
              simp only [ref19_Restrict_l1, axElem d k hlt, length_axC, axC0, hql', xElem_map 4 GV.cells d[k] q hql GV.length_cells, eq_true hkx, hte, length_boC, boC0, happ, hw2, xite_decide, xite_not, xif_decide, Option.bind_some, xDL_sl, xDI_v, xDS_s, xAD_d, xDB_v, GV.length_cells, GV.cells0, GV.cells1, GV.cells2, GV.cells3, List.length_map, Nat.le_refl, if_true]
              cases hb : ks[q]
              · rw [hb] at hr; simp only [Bool.false_eq_true, if_false] at hr
                simp only [xite_false]; exact hr
              · rw [hb] at hr; simp only [if_true] at hr
                simp only [xite_true]; exact hr
            · rw [parF_succ_ne _ _ _ _ _ hql hkx] at hr
              simp only [ref19_Restrict_l1, axElem d k hlt, length_axC, axC0, hql', xElem_map 4 GV.cells d[k] q hql GV.length_cells, eq_false hkx, happ, hw2, xite_decide, xite_not, xif_decide, Option.bind_some, xDL_sl, xDI_v, xDS_s, xAD_d, xDB_v, GV.length_cells, GV.cells0, GV.cells1, GV.cells2, GV.cells3, List.length_map, Nat.le_refl, if_true, if_false]
              exact hr
          · have hql' : ¬ (q : Int) < d[k].length := by omega
            have hqe : q = d[k].length := by omega
            have happ := app_out (outF d x ks k) (parF d[k] k x ks q) hol
            simp only [List.length_map] at happ
            have hr := hrec _ hlt rfl
            rw [outF_succ d x ks k hlt, ← hqe] at hr
            simp only [ref19_Restrict_l1, axElem d k hlt, length_axC, axC0, hql', happ, hw, xite_decide, xif_decide, xDL_sl, List.length_map, Option.bind_some, Nat.le_refl, if_true, if_false]
            exact hr
        · have hlt' : ¬ (k : Int) < d.length := by omega
          have hke : k = d.length := by omega
          simp only [ref19_Restrict_l0, hlt', xite_decide, List.length_map, if_false]
          rw [hke]
      · have h3' : ¬ (ks.length : Int) = d[x].length := by omega
        simp only [ref19_Restrict, h1, h2, h3, h3', hgd, Int.toNat_natCast, axElem d x hx, length_axC, axC0, xDL_sl, Option.bind_some, xite_decide, xite_not, xif_decide, Nat.le_refl, if_true, if_false, List.length_map, ne_eq, not_false_eq_true]
        rfl

theorem ref19_Same_self (e : List (List GV)) (n : Nat) (hl : e.length ≤ 1000) (hn : e.length + 3 ≤ n) (h : ∀ a ∈ e, a.length ≤ 9223372036854775807 ∧ GV.wtL a + 10 ≤ n ∧ ∀ x ∈ a, x.Ok) : Φ0 n i_ref19_Same [dA e, dA e] = some (aB true) := by
  obtain ⟨m, rfl⟩ := nat_succ (n := n) (k := 0) (by omega)
  rw [ref19_Same_run]
  simp only [ref19_Same, xite_decide, xite_not, if_true]
  refine iter_ex' (R := A) e.length (fun k y => y = ((), (), (k : Int), (dL e, ()), (dL e, ()), ())) _ (fun k y rec hk hy hrec => ?_) m 0 _ (by omega) (by omega) rfl
  subst hy
  by_cases hlt : k < e.length
  · have hlt' : (k : Int) < e.length := by omega
    have hw := wrap_i (k + 1) (by omega) (by omega)
    obtain ⟨a1, a2, a3⟩ := h _ (List.getElem_mem hlt)
    have he := ref01_EqualAll_self e[k] a1 m (by omega) a3
    simp only [ref19_Same_l0, axElem e k hlt, hlt', length_axC, axC0, he, hw, xite_decide, xite_not, xite_true, xif_decide, xDL_sl, xAD_d, xDB_v, List.length_map, Option.bind_some, Nat.le_refl, if_true]
    exact hrec _ hlt rfl
  · have hlt' : ¬ (k : Int) < e.length := by omega
    simp only [ref19_Same_l0, hlt', xite_decide, List.length_map, if_false]

theorem resF_facts (d : List (List GV)) (hd : DOk d) (hs : DSm d) (ax : Int) (ks : List Bool) : (resF d ax ks).1.length ≤ 12 ∧ ∀ a ∈ (resF d ax ks).1, a.length ≤ 70 ∧ GV.wtL a ≤ dwt d ∧ ∀ x ∈ a, x.Ok := by
  have hl := hs.len
  unfold resF
  (repeat' split) <;> first | (simp; done) | skip
  refine ⟨by simp [outF]; exact hl, fun a ha => ?_⟩
  simp only [outF, List.mem_map, List.mem_range] at ha
  obtain ⟨i, hi, rfl⟩ := ha
  have hg : d.getD i [] = d[i] := by simp [hi]
  rw [hg]
  have hm := List.getElem_mem hi
  have hsub := parF_sub d[i] i ax ks d[i].length
  have hw := dwt_mem d _ hm
  have := wtL_sublist hsub
  have := hs.ax _ hm
  have := hsub.length_le
  exact ⟨by omega, by omega, fun x hx => hd.ok _ hm x (hsub.subset hx)⟩

theorem domainRestricts_core : ∀ l, ArgsOK TT0 Try.f4.params.toList l → PCall Try.prog 4 l (.one (.d (.v (.bool true)))) := by
  intro l h
  obtain ⟨n, ds, m, es, k, fs, h1, h2, h3, rfl⟩ := args3 (t := t_Domain) (u := t_int) (v := 33) h
  obtain ⟨d, rfl, hd⟩ := wt_dom n ds h1
  obtain ⟨ax, rfl, k0, k1⟩ := wt_int rfl rfl h2
  obtain ⟨ks, rfl, _⟩ := wt_bools k fs h3
  refine Φ0_ok (dwt d + 100) 4 _ _ ?_
  generalize hN : dwt d + 99 = N
  show Φ0 (dwt d + 99 + 1) i_law19_DomainRestricts [dA d, aI ax, aK ks] = _
  rw [hN, law19_DomainRestricts_run]
  obtain ⟨b, hb, hs⟩ := law19_small_spec d hd N (by omega)
  have e0 := alive_spec N (by omega)
  cases b
  · simp [law19_DomainRestricts, hb, e0]
  · have hs := hs rfl
    have e1 := domain_Restrict_spec d hs ax ks N (by omega)
    have e2 := ref19_Restrict_spec d hs ax ks N (by omega)
    obtain ⟨f1, f2⟩ := resF_facts d hd hs ax ks
    have e3 := ref19_Same_self (resF d ax ks).1 N (by omega) (by omega) (fun a ha => by obtain ⟨g1, g2, g3⟩ := f2 a ha; exact ⟨by omega, by omega, g3⟩)
    by_cases h20 : (100 : Int) < ((ks.map boC).length : Int)
    · simp only [law19_DomainRestricts, hb, e0, h20, Option.bind_some, xAD_d, xDB_v, xite_decide, xite_not, xite_true, if_true]
    · simp only [law19_DomainRestricts, hb, e0, e1, e2, e3, h20, xtup_tup, xADs_agg, unD_cons, unD_nil, List.getD_cons_zero, List.length_cons, List.length_nil, List.getElem?_cons_zero, List.getElem?_cons_succ, Option.bind_some, xAD_d, xDI_v, xDB_v, xDL_sl, xite_decide, xite_not, xite_true, xif_decide, if_true, if_false]
end Go.Av
