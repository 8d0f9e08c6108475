/-
  The functions on values: what they give, 3: order, size; small values; the first examples.
-/
import Derived.Test.YtieagdjehjghdaaPdVal2
set_option linter.all false
set_option linter.unusedSimpArgs false
namespace Go.Av

theorem GV.cmp_eq (a b : GV) : a.cmp b = if a.ty ≠ b.ty then (if a.ty < b.ty then -1 else 1) else if a.num ≠ b.num then (if a.num < b.num then -1 else 1)
    else if a.text ≠ b.text then (if Op.bytesLess a.text b.text then -1 else 1) else GV.cmpL a.items b.items := by
  cases a; cases b; rw [GV.cmp]; rfl
theorem bytesLess_self (l : List UInt8) : Op.bytesLess l l = false := by
  induction l with
  | nil => rfl
  | cons a l ih => simp [Op.bytesLess, ih]

theorem value_Compare_spec (a : GV) : a.Ok → ∀ b : GV, b.Ok → ∀ n, a.wt + 2 ≤ n → Φ0 n i_value_Compare [a.toA, b.toA] = some (aI (a.cmp b)) := by
  refine GV.ind (p := fun a => a.Ok → ∀ b : GV, b.Ok → ∀ n, a.wt + 2 ≤ n → Φ0 n i_value_Compare [a.toA, b.toA] = some (aI (a.cmp b))) (fun a ih ha b hb n hn => ?_) a
  obtain ⟨m, rfl⟩ := nat_succ (n := n) (k := 0) (by omega)
  rw [GV.wt_eq] at hn
  have hl := GV.wtL_len a.items
  obtain ⟨_, hi⟩ := ha.len
  obtain ⟨_, hi'⟩ := hb.len
  rw [value_Compare_run, GV.cmp_eq]
  simp only [value_Compare, xite_decide, xite_not, List.length_map]
  rcases Int.lt_trichotomy a.ty b.ty with h1 | h1 | h1
  · have h0 : ¬ a.ty = b.ty := by omega
    simp only [h1, h0, if_true, ne_eq, not_false_eq_true]
  · simp only [h1, Int.lt_irrefl, if_false, ne_eq, not_true]
    rcases Int.lt_trichotomy a.num b.num with h2 | h2 | h2
    · have h0 : ¬ a.num = b.num := by omega
      simp only [h2, h0, if_true, not_false_eq_true]
    · simp only [h2, Int.lt_irrefl, if_false, not_true]
      by_cases h3 : a.text = b.text
      · rw [h3, bytesLess_self]
        simp only [xite_false, decide_true, Bool.or_true, xite_true, not_true, if_false]
        refine iter_nat (min a.items.length b.items.length) (fun k => ((), (), a.items.map GV.cells, (a.items.length : Int), (k : Int), (b.ty, b.num, b.text, a.items.map GV.cells, ()), (b.ty, b.num, b.text, b.items.map GV.cells, ()), ()))
          (fun k => aI (GV.cmpL (a.items.drop k) (b.items.drop k))) (fun k rec hk hrec => ?_) m 0 (by omega) (by omega)
        by_cases hlt : k < a.items.length
        · have hw := wrap_i (k + 1) (by omega) (by omega)
          have hlt' : (k : Int) < a.items.length := by omega
          by_cases hlb : k < b.items.length
          · have hr := hrec (by omega)
            have hc := ih _ (List.getElem_mem hlt) (ha.get _ (List.getElem_mem hlt)) _ (hb.get _ (List.getElem_mem hlb)) m (by have := (GV.wtL_get a.items k hlt).2; omega)
            have hne : ¬ (k : Int) = b.items.length := by omega
            simp only [value_Compare_l0, xElem_map 4 GV.cells a.items k hlt GV.length_cells, xElem_map 4 GV.cells b.items k hlb GV.length_cells, hw, hc, xite_decide, xite_not, xif_decide, Option.bind_some, GV.length_cells, GV.cells0, GV.cells1, GV.cells2, GV.cells3, xDI_v, xDS_s, xDL_sl, xAD_d, List.length_map, Nat.le_refl, if_true, hlt', hne, if_false]
            rw [drop_some _ k hlt, drop_some _ k hlb, GV.cmpL]
            by_cases hz : a.items[k].cmp b.items[k] = 0
            · simp only [hz, if_true, ne_eq, not_true, if_false]; exact hr
            · simp only [hz, if_false, ne_eq, not_false_eq_true, if_true]
          · have hke : k = b.items.length := by omega
            have he : ((k : Int) = b.items.length) = True := eq_true (by omega)
            simp only [value_Compare_l0, xElem_map 4 GV.cells a.items k hlt GV.length_cells, xite_decide, xif_decide, Option.bind_some, GV.length_cells, GV.cells0, GV.cells1, GV.cells2, GV.cells3, xDI_v, xDS_s, xDL_sl, List.length_map, Nat.le_refl, if_true, hlt', he]
            rw [drop_some _ k hlt, List.drop_of_length_le (l := b.items) (by omega), GV.cmpL]
        · have hke : k = a.items.length := by omega
          have hlt' : ¬ (k : Int) < a.items.length := by omega
          simp only [value_Compare_l0, xite_decide, List.length_map, hlt', if_false]
          rw [List.drop_of_length_le (l := a.items) (by omega)]
          by_cases hll : a.items.length < b.items.length
          · rw [drop_some _ k (by omega), GV.cmpL, if_pos (by omega)]
          · rw [List.drop_of_length_le (l := b.items) (by omega), GV.cmpL, if_neg (by omega)]
      · cases hb1 : Op.bytesLess a.text b.text
        · simp [h3]
        · simp [h3]
    · have h0 : ¬ a.num = b.num := by omega
      have h00 : ¬ a.num < b.num := by omega
      simp only [h2, h0, h00, if_true, if_false, not_false_eq_true]
  · have h0 : ¬ a.ty = b.ty := by omega
    have h00 : ¬ a.ty < b.ty := by omega
    simp only [h1, h0, h00, if_true, if_false, ne_eq, not_false_eq_true]

theorem ref01_CompareAll_body (xs ys : List GV) (hx : xs.length ≤ 9223372036854775807) (n : Nat) (hn : xs.length + 2 ≤ n)
    (h : ∀ x ∈ xs, ∀ y ∈ ys, Φ0 (n - 1) i_ref01_Compare [x.toA, y.toA] = some (aI (x.cmp y))) : Φ0 n i_ref01_CompareAll [aL xs, aL ys] = some (aI (GV.cmpL xs ys)) := by
  obtain ⟨m, rfl⟩ := nat_succ (n := n) (k := 0) (by omega)
  rw [ref01_CompareAll_run]
  simp only [ref01_CompareAll]
  refine iter_nat (min xs.length ys.length) (fun k => (xs.map GV.cells, ys.map GV.cells, (k : Int), ())) (fun k => aI (GV.cmpL (xs.drop k) (ys.drop k))) (fun k rec hk hrec => ?_) m 0 (by omega) (by omega)
  have hs := fun b => ref01_sign_spec b m (by omega)
  by_cases hlt : k < xs.length
  · have hlt' : (k : Int) < xs.length := by omega
    by_cases hlb : k < ys.length
    · have hlb' : (k : Int) < ys.length := by omega
      have hw := wrap_i (k + 1) (by omega) (by omega)
      have hr := hrec (by omega)
      have hc := h _ (List.getElem_mem hlt) _ (List.getElem_mem hlb)
      simp only [Nat.add_sub_cancel] at hc
      simp only [ref01_CompareAll_l0, xElem_map 4 GV.cells xs k hlt GV.length_cells, xElem_map 4 GV.cells ys k hlb GV.length_cells, hw, hc, xite_decide, xite_not, xif_decide, Option.bind_some, GV.length_cells, GV.cells0, GV.cells1, GV.cells2, GV.cells3, xDI_v, xDS_s, xDL_sl, xAD_d, List.length_map, Nat.le_refl, if_true, hlt', hlb', if_false]
      rw [drop_some _ k hlt, drop_some _ k hlb, GV.cmpL]
      by_cases hz : xs[k].cmp ys[k] = 0
      · simp only [hz, if_true, ne_eq, not_true, if_false]; exact hr
      · simp only [hz, if_false, ne_eq, not_false_eq_true, if_true]
    · have hlb' : ¬ (k : Int) < ys.length := by omega
      have hne : ¬ (xs.length : Int) = ys.length := by omega
      have hnl : ¬ (xs.length : Int) < ys.length := by omega
      simp only [ref01_CompareAll_l0, xite_decide, List.length_map, hlt', hlb', if_true, if_false, hne, hs, Option.bind_some, xAD_d, xDI_v, hnl, decide_false]
      rw [drop_some _ k hlt, List.drop_of_length_le (l := ys) (by omega), GV.cmpL]
      rfl
  · have hlt' : ¬ (k : Int) < xs.length := by omega
    simp only [ref01_CompareAll_l0, xite_decide, List.length_map, hlt', if_false]
    rw [List.drop_of_length_le (l := xs) (by omega)]
    by_cases hll : xs.length = ys.length
    · rw [List.drop_of_length_le (l := ys) (by omega), GV.cmpL, if_pos (by omega)]
    · have hlx : (xs.length : Int) < ys.length := by omega
      rw [drop_some _ k (by omega), GV.cmpL, if_neg (by omega)]
      simp only [hs, hlx, decide_true, Option.bind_some, xAD_d, xDI_v, if_true]

theorem ref01_Compare_spec (a : GV) : a.Ok → ∀ b : GV, b.Ok → ∀ n, a.wt + 3 ≤ n → Φ0 n i_ref01_Compare [a.toA, b.toA] = some (aI (a.cmp b)) := by
  refine GV.ind (p := fun a => a.Ok → ∀ b : GV, b.Ok → ∀ n, a.wt + 3 ≤ n → Φ0 n i_ref01_Compare [a.toA, b.toA] = some (aI (a.cmp b))) (fun a ih ha b hb n hn => ?_) a
  obtain ⟨m, rfl⟩ := nat_succ (n := n) (k := 0) (by omega)
  rw [GV.wt_eq] at hn
  have hl := GV.wtL_len a.items
  obtain ⟨_, hi⟩ := ha.len
  have hs := fun b => ref01_sign_spec b m (by omega)
  have hC := ref01_CompareAll_body a.items b.items hi m (by omega) (fun x hx y hy => ih x hx (ha.get x hx) y (hb.get y hy) (m - 1) (by
    obtain ⟨k, hk, rfl⟩ := List.mem_iff_getElem.1 hx
    have := (GV.wtL_get a.items k hk).2
    omega))
  rw [ref01_Compare_run, GV.cmp_eq]
  simp only [ref01_Compare, xite_decide, xite_not, hs, hC, Option.bind_some, xAD_d, xDI_v]
  by_cases h1 : a.ty = b.ty
  · by_cases h2 : a.num = b.num
    · by_cases h3 : a.text = b.text
      · simp [h1, h2, h3]
      · simp [h1, h2, h3]
    · simp [h1, h2]
  · simp [h1]

theorem value_Equal_spec (a b : GV) (ha : a.Ok) (hb : b.Ok) (n : Nat) (hn : a.wt + 3 ≤ n) : Φ0 n i_value_Equal [a.toA, b.toA] = some (aB (decide (a.cmp b = 0))) := by
  obtain ⟨m, rfl⟩ := nat_succ (n := n) (k := 0) (by omega)
  rw [value_Equal_run]
  simp only [value_Equal, value_Compare_spec a ha b hb m (by omega), Option.bind_some, xAD_d, xDI_v]
theorem ref01_Equal_spec (a b : GV) (ha : a.Ok) (hb : b.Ok) (n : Nat) (hn : a.wt + 4 ≤ n) : Φ0 n i_ref01_Equal [a.toA, b.toA] = some (aB (decide (a.cmp b = 0))) := by
  obtain ⟨m, rfl⟩ := nat_succ (n := n) (k := 0) (by omega)
  rw [ref01_Equal_run]
  simp only [ref01_Equal, ref01_Compare_spec a ha b hb m (by omega), Option.bind_some, xAD_d, xDI_v]

end Go.Av
