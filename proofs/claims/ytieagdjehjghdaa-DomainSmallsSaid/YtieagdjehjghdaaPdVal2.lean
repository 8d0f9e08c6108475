/-
  The functions on values: what they give, 2: Check.
-/
import Derived.Test.YtieagdjehjghdaaPdVal1
set_option linter.all false
set_option linter.unusedSimpArgs false
namespace Go.Av

/-- Checks at the elements of a list. -/
def ChkV (n : Nat) (l : List GV) : Prop := ∀ x ∈ l, Φ0 n i_value_Check [x.toA] = some (aI x.chk)
def ChkR (n : Nat) (l : List GV) : Prop := ∀ x ∈ l, Φ0 n i_ref01_Check [x.toA] = some (aI x.chk)

theorem value_elements_spec (l : List GV) (t : Int) (hl : l.length ≤ 9223372036854775807) (n : Nat) (hn : l.length + 2 ≤ n) (h : ChkV (n - 1) l) :
    Φ0 n i_value_elements [aL l, aI t] = some (aI (if (16 : Int) < l.length then 2 else GV.chkL t l)) := by
  obtain ⟨m, rfl⟩ := nat_succ (n := n) (k := 0) (by omega)
  rw [value_elements_run]
  simp only [value_elements, xite_decide, List.length_map]
  split
  · rfl
  · refine iter_nat l.length (fun k => (t, l.map GV.cells, (l.length : Int), (k : Int), ())) (fun k => aI (GV.chkL t (l.drop k))) (fun k rec hk hrec => ?_) m 0 (by omega) (by omega)
    by_cases hlt : k < l.length
    · have hw := wrap_i (k + 1) (by omega) (by omega)
      have hr := hrec hlt
      have hc := h l[k] (List.getElem_mem hlt)
      simp only [Nat.add_sub_cancel] at hc
      simp only [value_elements_l0, xite_decide, xif_decide, xElem_map 4 GV.cells l k hlt GV.length_cells, Option.bind_some, hw, GV.length_cells, GV.cells0, GV.cells1, GV.cells2, GV.cells3, xDI_v, xDS_s, xDL_sl, hc, xAD_d, xite_not]
      rw [if_pos (by omega), drop_some l k hlt, GV.chkL]
      simp only [Nat.le_refl, if_true]
      by_cases h1 : l[k].ty = t
      · by_cases h2 : l[k].chk = 0
        · simpa [h1, h2] using hr
        · simp [h1, h2]
      · simp [h1]
    · have hke : k = l.length := by omega
      subst hke
      simp [value_elements_l0, GV.chkL]
theorem ref01_elements_spec (l : List GV) (t : Int) (hl : l.length ≤ 9223372036854775807) (n : Nat) (hn : l.length + 2 ≤ n) (h : ChkR (n - 1) l) :
    Φ0 n i_ref01_elements [aL l, aI t] = some (aI (if (16 : Int) < l.length then 2 else GV.chkL t l)) := by
  obtain ⟨m, rfl⟩ := nat_succ (n := n) (k := 0) (by omega)
  rw [ref01_elements_run]
  simp only [ref01_elements, xite_decide, List.length_map]
  split
  · rfl
  · refine iter_nat l.length (fun k => (l.map GV.cells, t, (k : Int), ())) (fun k => aI (GV.chkL t (l.drop k))) (fun k rec hk hrec => ?_) m 0 (by omega) (by omega)
    by_cases hlt : k < l.length
    · have hw := wrap_i (k + 1) (by omega) (by omega)
      have hr := hrec hlt
      have hc := h l[k] (List.getElem_mem hlt)
      simp only [Nat.add_sub_cancel] at hc
      rw [drop_some l k hlt, GV.chkL]
      simp [ref01_elements_l0, xElem_map 4 GV.cells l k hlt GV.length_cells, hw, hc, hlt]
      by_cases h1 : l[k].ty = t
      · by_cases h2 : l[k].chk = 0
        · simpa [h1, h2] using hr
        · simp [h1, h2]
      · simp [h1]
    · have hke : k = l.length := by omega
      subst hke
      simp [ref01_elements_l0, GV.chkL]

theorem head_len (l : List GV) (h : 0 < l.length) : ((l.head?.map fun g => g.items.length).getD 0) = l[0].items.length := by
  cases l with
  | nil => simp at h
  | cons x xs => rfl

theorem value_rows_spec (l : List GV) (hl : l.length ≤ 9223372036854775807) (n : Nat) (hn : l.length + 2 ≤ n) (h : ChkV (n - 1) l) :
    Φ0 n i_value_rows [aL l] = some (aI (if (8 : Int) < l.length then 2 else GV.chkR ((l.head?.map fun g => g.items.length).getD 0) l)) := by
  obtain ⟨m, rfl⟩ := nat_succ (n := n) (k := 0) (by omega)
  rw [value_rows_run]
  simp only [value_rows, xite_decide, List.length_map]
  split
  · rfl
  · refine iter_nat l.length (fun k => (l.map GV.cells, l.map GV.cells, (l.length : Int), (k : Int), ())) (fun k => aI (GV.chkR ((l.head?.map fun g => g.items.length).getD 0) (l.drop k))) (fun k rec hk hrec => ?_) m 0 (by omega) (by omega)
    by_cases hlt : k < l.length
    · have hw := wrap_i (k + 1) (by omega) (by omega)
      have hr := hrec hlt
      have hc := h l[k] (List.getElem_mem hlt)
      have h0 := xElem0 4 GV.cells l (by omega) GV.length_cells
      simp only [Nat.add_sub_cancel] at hc
      rw [drop_some l k hlt, GV.chkR]
      rw [head_len l (by omega)] at hr ⊢
      simp only [value_rows_l0, xElem_map 4 GV.cells l k hlt GV.length_cells, h0, hw, hc, xite_decide, xite_not, xif_decide, Option.bind_some, GV.length_cells, GV.cells0, GV.cells1, GV.cells2, GV.cells3, GV.drop3, xDI_v, xDS_s, xDL_sl, xAD_d, List.length_map, List.getD_cons_zero, List.length_cons, List.length_nil, Nat.zero_add, Nat.le_refl, if_true]
      have hlt' : (k : Int) < l.length := by omega
      simp only [hlt', if_true]
      by_cases h1 : l[k].ty = 6
      · by_cases h3 : l[k].items.length < 1
        · have h3' : (l[k].items.length : Int) < 1 := by omega
          simp only [h1, h3, h3', if_true, ne_eq, not_true, if_false, true_or]
        · have h3' : ¬ (l[k].items.length : Int) < 1 := by omega
          by_cases h4 : 8 < l[k].items.length
          · have h4' : (8 : Int) < l[k].items.length := by omega
            simp only [h1, h3, h3', h4, h4', if_true, ne_eq, not_true, if_false, true_or, or_true, false_or]
          · have h4' : ¬ (8 : Int) < l[k].items.length := by omega
            by_cases h5 : l[k].items.length = l[0].items.length
            · have h5' : (l[k].items.length : Int) = l[0].items.length := by omega
              rw [h5] at h3 h4 h3' h4'
              by_cases h2 : l[k].chk = 0
              · simp only [h1, h3, h3', h4, h4', h5, h2, if_true, ne_eq, not_true, if_false, true_or, or_true, false_or, or_false]
                exact hr
              · simp only [h1, h3, h3', h4, h4', h5, h2, if_true, ne_eq, not_true, if_false, true_or, or_true, false_or, or_false, not_false_eq_true]
            · have h5' : ¬ (l[k].items.length : Int) = l[0].items.length := by omega
              simp only [h1, h3, h3', h4, h4', h5, h5', if_true, ne_eq, not_true, if_false, true_or, or_true, false_or, not_false_eq_true]
      · simp only [h1, if_false, ne_eq, not_false_eq_true, if_true]
    · have hke : k = l.length := by omega
      subst hke
      simp [value_rows_l0, GV.chkR]

theorem ref01_rows_spec (l : List GV) (hl : l.length ≤ 9223372036854775807) (n : Nat) (hn : l.length + 2 ≤ n) (h : ChkR (n - 1) l) :
    Φ0 n i_ref01_rows [aL l] = some (aI (if (8 : Int) < l.length then 2 else GV.chkR ((l.head?.map fun g => g.items.length).getD 0) l)) := by
  obtain ⟨m, rfl⟩ := nat_succ (n := n) (k := 0) (by omega)
  rw [ref01_rows_run]
  simp only [ref01_rows, xite_decide, List.length_map]
  split
  · rfl
  · refine iter_nat l.length (fun k => (l.map GV.cells, (k : Int), ())) (fun k => aI (GV.chkR ((l.head?.map fun g => g.items.length).getD 0) (l.drop k))) (fun k rec hk hrec => ?_) m 0 (by omega) (by omega)
    by_cases hlt : k < l.length
    · have hw := wrap_i (k + 1) (by omega) (by omega)
      have hr := hrec hlt
      have hc := h l[k] (List.getElem_mem hlt)
      have h0 := xElem0 4 GV.cells l (by omega) GV.length_cells
      simp only [Nat.add_sub_cancel] at hc
      rw [drop_some l k hlt, GV.chkR]
      rw [head_len l (by omega)] at hr ⊢
      simp only [ref01_rows_l0, xElem_map 4 GV.cells l k hlt GV.length_cells, h0, hw, hc, xite_decide, xite_not, xif_decide, Option.bind_some, GV.length_cells, GV.cells0, GV.cells1, GV.cells2, GV.cells3, GV.drop3, xDI_v, xDS_s, xDL_sl, xAD_d, List.length_map, List.getD_cons_zero, List.length_cons, List.length_nil, Nat.zero_add, Nat.le_refl, if_true]
      have hlt' : (k : Int) < l.length := by omega
      have h14 : (1 : Nat) ≤ 4 := by decide
      simp only [hlt', h14, if_true]
      by_cases h1 : l[k].ty = 6
      · by_cases h3 : l[k].items.length < 1
        · have h3' : (l[k].items.length : Int) < 1 := by omega
          simp only [h1, h3, h3', if_true, ne_eq, not_true, if_false, true_or]
        · have h3' : ¬ (l[k].items.length : Int) < 1 := by omega
          by_cases h4 : 8 < l[k].items.length
          · have h4' : (8 : Int) < l[k].items.length := by omega
            simp only [h1, h3, h3', h4, h4', if_true, ne_eq, not_true, if_false, true_or, or_true, false_or]
          · have h4' : ¬ (8 : Int) < l[k].items.length := by omega
            by_cases h5 : l[k].items.length = l[0].items.length
            · have h5' : (l[k].items.length : Int) = l[0].items.length := by omega
              rw [h5] at h3 h4 h3' h4'
              by_cases h2 : l[k].chk = 0
              · simp only [h1, h3, h3', h4, h4', h5, h2, if_true, ne_eq, not_true, if_false, true_or, or_true, false_or, or_false]
                exact hr
              · simp only [h1, h3, h3', h4, h4', h5, h2, if_true, ne_eq, not_true, if_false, true_or, or_true, false_or, or_false, not_false_eq_true]
            · have h5' : ¬ (l[k].items.length : Int) = l[0].items.length := by omega
              simp only [h1, h3, h3', h4, h4', h5, h5', if_true, ne_eq, not_true, if_false, true_or, or_true, false_or, not_false_eq_true]
      · simp only [h1, if_false, ne_eq, not_false_eq_true, if_true]
    · have hke : k = l.length := by omega
      subst hke
      simp [ref01_rows_l0, GV.chkR]
end Go.Av
namespace Go.Av
theorem value_Check_spec (g : GV) : g.Ok → ∀ n, g.wt + 3 ≤ n → Φ0 n i_value_Check [g.toA] = some (aI g.chk) := by
  refine GV.ind (p := fun g => g.Ok → ∀ n, g.wt + 3 ≤ n → Φ0 n i_value_Check [g.toA] = some (aI g.chk)) (fun g ih hok n hn => ?_) g
  obtain ⟨m, rfl⟩ := nat_succ (n := n) (k := 0) (by omega)
  rw [GV.wt_eq] at hn
  have hl := GV.wtL_len g.items
  obtain ⟨ht, hi⟩ := hok.len
  have hel : ChkV (m - 1) g.items := fun x hx => by
    obtain ⟨k, hk, rfl⟩ := List.mem_iff_getElem.1 hx
    have := (GV.wtL_get g.items k hk).2
    exact ih _ hx (hok.get _ hx) _ (by omega)
  rw [value_Check_run]
  have e1 := value_unused_spec g m (by omega)
  have e2 := fun lo hi => value_ranged_spec g.num lo hi m (by omega)
  have e3 := fun lo hi => value_sized_spec g.text lo hi ht m (by omega)
  have e4 := fun t => value_elements_spec g.items t hi m (by omega) hel
  have e5 := value_rows_spec g.items hi m (by omega) hel
  simp only [value_Check, xite_decide, e1, Option.bind_some, xAD_d, xDB_v, xite_not, e2, e3, e4, e5, xDI_v]
  obtain ⟨ty, num, text, items⟩ := g
  simp only [GV.mk_ty, GV.mk_num, GV.mk_text, GV.mk_items, GV.chk]
  by_cases h1 : ty < 1
  · simp [h1]
  · by_cases h2 : 8 < ty
    · simp [h1, h2]
    · simp only [h1, h2, if_false, or_self]
      cases hu : unusedF ty num text items.length
      · simp
      · simp only [xite_true, Bool.true_eq_false, if_false]
        have : ty = 1 ∨ ty = 2 ∨ ty = 3 ∨ ty = 4 ∨ ty = 5 ∨ ty = 6 ∨ ty = 7 ∨ ty = 8 := by omega
        rcases this with rfl | rfl | rfl | rfl | rfl | rfl | rfl | rfl <;> first | (simp; done) | (simp; rfl)
theorem ref01_Check_spec (g : GV) : g.Ok → ∀ n, g.wt + 3 ≤ n → Φ0 n i_ref01_Check [g.toA] = some (aI g.chk) := by
  refine GV.ind (p := fun g => g.Ok → ∀ n, g.wt + 3 ≤ n → Φ0 n i_ref01_Check [g.toA] = some (aI g.chk)) (fun g ih hok n hn => ?_) g
  obtain ⟨m, rfl⟩ := nat_succ (n := n) (k := 0) (by omega)
  rw [GV.wt_eq] at hn
  have hl := GV.wtL_len g.items
  obtain ⟨ht, hi⟩ := hok.len
  have hel : ChkR (m - 1) g.items := fun x hx => by
    obtain ⟨k, hk, rfl⟩ := List.mem_iff_getElem.1 hx
    have := (GV.wtL_get g.items k hk).2
    exact ih _ hx (hok.get _ hx) _ (by omega)
  rw [ref01_Check_run]
  have e2 := fun lo hi => ref01_within_spec g.num lo hi m (by omega)
  have e3 := fun lo hi => plain_body g.text lo hi ht m (by omega)
  have e4 := fun t => ref01_elements_spec g.items t hi m (by omega) hel
  have e5 := ref01_rows_spec g.items hi m (by omega) hel
  obtain ⟨ty, num, text, items⟩ := g
  simp only [GV.mk_ty, GV.mk_num, GV.mk_text, GV.mk_items, GV.chk] at *
  by_cases h1 : ty < 1
  · simp [ref01_Check, h1]
  · by_cases h2 : 8 < ty
    · simp [ref01_Check, h1, h2]
    · have : ty = 1 ∨ ty = 2 ∨ ty = 3 ∨ ty = 4 ∨ ty = 5 ∨ ty = 6 ∨ ty = 7 ∨ ty = 8 := by omega
      rcases this with rfl | rfl | rfl | rfl | rfl | rfl | rfl | rfl
      all_goals
        simp [ref01_Check, unusedF, e2, e3, e4, e5]
        try (by_cases a : num = 0 <;> by_cases b : text = [] <;> by_cases c : items = [] <;> first | (simp [a, b, c]; done) | (simp [a, b, c]; rfl))
end Go.Av
