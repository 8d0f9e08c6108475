/-
  Domains: places, numbers of tuples, all tuples.
-/
import Derived.Test.YtieagdjehjghdaaPdL1
set_option linter.all false
set_option linter.unusedSimpArgs false
namespace Go.Av
open Go.Proofs

/-- The first place of a value, or -1. -/
def placeF : List GV → GV → Int → Int
  | [], _, _ => -1
  | x :: xs, v, k => if x.cmp v = 0 then k else placeF xs v (k + 1)

theorem domain_place_spec (l : List GV) (v : GV) (hl : l.length ≤ 9223372036854775807) (ho : ∀ x ∈ l, x.Ok) (hv : v.Ok) (n : Nat) (hn : GV.wtL l + 5 ≤ n) : Φ0 n i_domain_place [aL l, v.toA] = some (aI (placeF l v 0)) := by
  obtain ⟨m, rfl⟩ := nat_succ (n := n) (k := 0) (by omega)
  have hw0 := GV.wtL_len l
  rw [domain_place_run, domain_place]
  refine iter_nat l.length (fun k => ((), l.map GV.cells, (((l.map GV.cells).length : Nat) : Int), (k : Int), (v.ty, v.num, v.text, v.items.map GV.cells, ()), ())) (fun k => aI (placeF (l.drop k) v k)) (fun k rec hk hrec => ?_) m 0 (by omega) (by omega)
  by_cases hlt : k < l.length
  · have hlt' : (k : Int) < l.length := by omega
    have hw := wrap_i (k + 1) (by omega) (by omega)
    have hm := List.getElem_mem hlt
    have hgw := wtL_mem _ _ hm
    have hc := value_Equal_spec l[k] v (ho _ hm) hv m (by omega)
    have hr := hrec hlt
    simp only [domain_place_l0, xElem_map 4 GV.cells l k hlt GV.length_cells, hlt', hw, hc, xite_decide, xif_decide, Option.bind_some, GV.length_cells, GV.cells0, GV.cells1, GV.cells2, GV.cells3, xDL_sl, xDI_v, xDS_s, xAD_d, xDB_v, List.length_map, Nat.le_refl, if_true]
    rw [drop_some l k hlt, placeF]
    split
    · rfl
    · simp only [List.length_map] at hr; exact hr
  · have hlt' : ¬ (k : Int) < l.length := by omega
    simp only [domain_place_l0, hlt', xite_decide, List.length_map, if_false]
    rw [List.drop_of_length_le (by omega), placeF]

theorem ref19_Place_spec (l : List GV) (v : GV) (hl : l.length ≤ 9223372036854775807) (ho : ∀ x ∈ l, x.Ok) (hv : v.Ok) (n : Nat) (hn : GV.wtL l + 6 ≤ n) : Φ0 n i_ref19_Place [aL l, v.toA] = some (aI (placeF l v 0)) := by
  obtain ⟨m, rfl⟩ := nat_succ (n := n) (k := 0) (by omega)
  have hw0 := GV.wtL_len l
  rw [ref19_Place_run, ref19_Place]
  refine iter_nat l.length (fun k => (l.map GV.cells, (), (k : Int), (v.ty, v.num, v.text, v.items.map GV.cells, ()), ())) (fun k => aI (placeF (l.drop k) v k)) (fun k rec hk hrec => ?_) m 0 (by omega) (by omega)
  by_cases hlt : k < l.length
  · have hlt' : (k : Int) < l.length := by omega
    have hw := wrap_i (k + 1) (by omega) (by omega)
    have hm := List.getElem_mem hlt
    have hgw := wtL_mem _ _ hm
    have hc := ref01_Equal_spec l[k] v (ho _ hm) hv m (by omega)
    have hr := hrec hlt
    simp only [ref19_Place_l0, xElem_map 4 GV.cells l k hlt GV.length_cells, hlt', hw, hc, xite_decide, xif_decide, Option.bind_some, GV.length_cells, GV.cells0, GV.cells1, GV.cells2, GV.cells3, xDL_sl, xDI_v, xDS_s, xAD_d, xDB_v, List.length_map, Nat.le_refl, if_true]
    rw [drop_some l k hlt, placeF]
    split
    · rfl
    · exact hr
  · have hlt' : ¬ (k : Int) < l.length := by omega
    simp only [ref19_Place_l0, hlt', xite_decide, List.length_map, if_false]
    rw [List.drop_of_length_le (by omega), placeF]

theorem law19_few_spec (l : List GV) (hl : l.length ≤ 9223372036854775807) (ho : ∀ x ∈ l, x.Ok) (n : Nat) (hn : GV.wtL l + 8 ≤ n) : ∃ b, Φ0 n i_law19_few [aL l] = some (aB b) ∧ (b = true → l.length ≤ 12) := by
  obtain ⟨m, rfl⟩ := nat_succ (n := n) (k := 0) (by omega)
  have hw0 := GV.wtL_len l
  rw [law19_few_run, law19_few]
  have key := iter_ex (R := A) l.length (fun k (x : List (List D) × Int × Unit) => x = (l.map GV.cells, (k : Int), ())) (fun r => ∃ b, r = aB b ∧ (b = true → l.length ≤ 12))
    (F := fun (x : List (List D) × Int × Unit) (rec : (List (List D) × Int × Unit) → Option A) => law19_few_l0 (Φ0 m) m (fun l2 i3 => rec (l2, i3, ())) x.1 x.2.1)
    (fun k x rec hk hx hrec => by
      subst hx
      by_cases hlt : k < l.length
      · have hlt' : (k : Int) < l.length := by omega
        by_cases h12 : (k : Int) < 12
        · have hw := wrap_i (k + 1) (by omega) (by omega)
          have hm := List.getElem_mem hlt
          have hgw := wtL_mem _ _ hm
          obtain ⟨b, hb, _⟩ := ref01_Small_spec l[k] (ho _ hm) m (by omega)
          simp only [law19_few_l0, xElem_map 4 GV.cells l k hlt GV.length_cells, hlt', h12, hw, hb, xite_decide, xite_not, xif_decide, Option.bind_some, GV.length_cells, GV.cells0, GV.cells1, GV.cells2, GV.cells3, xDL_sl, xDI_v, xDS_s, xAD_d, xDB_v, List.length_map, Nat.le_refl, if_true]
          cases b
          · exact ⟨_, rfl, false, rfl, fun h => by cases h⟩
          · exact hrec _ hlt rfl
        · refine ⟨_, ?_, decide ((l.length : Int) ≤ 12), rfl, fun h => by have := of_decide_eq_true h; omega⟩
          simp only [law19_few_l0, hlt', h12, xite_decide, List.length_map, if_true, if_false]
      · have hlt' : ¬ (k : Int) < l.length := by omega
        refine ⟨_, ?_, decide ((l.length : Int) ≤ 12), rfl, fun h => by have := of_decide_eq_true h; omega⟩
        simp only [law19_few_l0, hlt', xite_decide, List.length_map, if_false]) m 0 (l.map GV.cells, (0 : Int), ()) (by omega) (by omega) rfl
  obtain ⟨r, hr, b, rfl, hb⟩ := key
  exact ⟨b, hr, hb⟩

/-- The number of a tuple. -/
def idxF : List (List GV) → List GV → Int → Int × Bool
  | a :: d, g :: t, n => if placeF a g 0 < 0 then (0, false) else idxF d t (IntKind.i64.wrap (IntKind.i64.wrap (n * a.length) + placeF a g 0))
  | _, _, n => (n, true)
def indexF (d : List (List GV)) (t : List GV) : Int × Bool :=
  if (sizeF d).2 ≠ 0 then (0, false) else if t.length ≠ d.length then (0, false) else idxF d t 0
abbrev twoB (x : Int × Bool) : A := .tup [aI x.1, aB x.2]

theorem domain_Index_spec (d : List (List GV)) (ho : DOk d) (hs : DSm d) (t : List GV) (ht : ∀ x ∈ t, x.Ok) (n : Nat) (hn : dwt d + 10 ≤ n) : Φ0 n i_domain_Index [dA d, aL t] = some (twoB (indexF d t)) := by
  obtain ⟨m, rfl⟩ := nat_succ (n := n) (k := 0) (by omega)
  have hd := hs.len
  have hdl := dwt_len d
  have hsz := domain_Size_spec d hd hs.ax m (by omega)
  rw [domain_Index_run]
  unfold indexF
  by_cases h1 : (sizeF d).2 = 0
  · by_cases h2 : t.length = d.length
    · have h2' : (t.length : Int) = d.length := by omega
      simp only [domain_Index, hsz, h1, h2', xtup_tup, List.getElem?_cons_zero, List.getElem?_cons_succ, xAD_d, xDI_v, xite_decide, xite_not, if_true, List.length_map, Option.bind_some, ne_eq, not_true, if_false, h2]
      refine iter_ex' (R := A) d.length (fun k x => ∃ c, x = (t.map GV.cells, c, dL d, (d.length : Int), (k : Int), ()) ∧ idxF (d.drop k) (t.drop k) c = idxF d t 0) _ (fun k x rec hk hx hrec => ?_) m 0 _ (by omega) (by omega) ⟨0, rfl, rfl⟩
      obtain ⟨c, rfl, hc⟩ := hx
      by_cases hlt : k < d.length
      · have hlt' : (k : Int) < d.length := by omega
        have htl : k < t.length := by omega
        have hw := wrap_i (k + 1) (by omega) (by omega)
        have hm := List.getElem_mem hlt
        have hwm := dwt_mem d _ hm
        have hp := domain_place_spec d[k] t[k] (ho.ax _ hm) (ho.ok _ hm) (ht _ (List.getElem_mem htl)) m (by omega)
        rw [drop_some d k hlt, drop_some t k htl, idxF] at hc
        simp only [domain_Index_l0, axElem d k hlt, xElem_map 4 GV.cells t k htl GV.length_cells, hlt', hw, hp, xite_decide, xif_decide, Option.bind_some, length_axC, axC0, GV.length_cells, GV.cells0, GV.cells1, GV.cells2, GV.cells3, xDL_sl, xDI_v, xDS_s, xAD_d, List.length_map, Nat.le_refl, if_true]
        split at hc
        · rename_i hz
          simp only [hz, if_true]
          rw [← hc]
        · rename_i hz
          simp only [hz, if_false]
          exact hrec _ hlt ⟨_, rfl, hc⟩
      · have hlt' : ¬ (k : Int) < d.length := by omega
        rw [List.drop_of_length_le (by omega), List.drop_of_length_le (by omega), idxF] at hc
        · simp only [domain_Index_l0, hlt', xite_decide, if_false]
          rw [← hc]
        · simp
    · have h2' : ¬ (t.length : Int) = d.length := by omega
      simp [domain_Index, hsz, h1, h2, h2']
  · simp [domain_Index, hsz, h1]

theorem ref19_Index_spec (d : List (List GV)) (ho : DOk d) (hs : DSm d) (t : List GV) (ht : ∀ x ∈ t, x.Ok) (n : Nat) (hn : dwt d + 10 ≤ n) : Φ0 n i_ref19_Index [dA d, aL t] = some (twoB (indexF d t)) := by
  obtain ⟨m, rfl⟩ := nat_succ (n := n) (k := 0) (by omega)
  have hd := hs.len
  have hdl := dwt_len d
  have hsz := ref19_Size_spec d hd hs.ax m (by omega)
  rw [ref19_Index_run]
  unfold indexF
  by_cases h1 : (sizeF d).2 = 0
  · by_cases h2 : t.length = d.length
    · have h2' : (t.length : Int) = d.length := by omega
      simp only [ref19_Index, hsz, h1, h2', xtup_tup, List.getElem?_cons_zero, List.getElem?_cons_succ, xAD_d, xDI_v, xite_decide, xite_not, if_true, List.length_map, Option.bind_some, ne_eq, not_true, if_false, h2]
      refine iter_ex' (R := A) d.length (fun k x => ∃ c, x = (t.map GV.cells, (), c, (k : Int), (dL d, ()), ()) ∧ idxF (d.drop k) (t.drop k) c = idxF d t 0) _ (fun k x rec hk hx hrec => ?_) m 0 _ (by omega) (by omega) ⟨0, rfl, rfl⟩
      obtain ⟨c, rfl, hc⟩ := hx
      by_cases hlt : k < d.length
      · have hlt' : (k : Int) < d.length := by omega
        have htl : k < t.length := by omega
        have hw := wrap_i (k + 1) (by omega) (by omega)
        have hm := List.getElem_mem hlt
        have hwm := dwt_mem d _ hm
        have hp := ref19_Place_spec d[k] t[k] (ho.ax _ hm) (ho.ok _ hm) (ht _ (List.getElem_mem htl)) m (by omega)
        rw [drop_some d k hlt, drop_some t k htl, idxF] at hc
        simp only [ref19_Index_l0, axElem d k hlt, xElem_map 4 GV.cells t k htl GV.length_cells, hlt', hw, hp, xite_decide, xif_decide, Option.bind_some, length_axC, axC0, GV.length_cells, GV.cells0, GV.cells1, GV.cells2, GV.cells3, xDL_sl, xDI_v, xDS_s, xAD_d, List.length_map, Nat.le_refl, if_true]
        split at hc
        · rename_i hz
          simp only [hz, if_true]
          rw [← hc]
        · rename_i hz
          simp only [hz, if_false]
          exact hrec _ hlt ⟨_, rfl, hc⟩
      · have hlt' : ¬ (k : Int) < d.length := by omega
        rw [List.drop_of_length_le (by omega), List.drop_of_length_le (by omega), idxF] at hc
        · simp only [ref19_Index_l0, hlt', xite_decide, List.length_map, if_false]
          rw [← hc]
        · simp
    · have h2' : ¬ (t.length : Int) = d.length := by omega
      simp [ref19_Index, hsz, h1, h2, h2']
  · simp [ref19_Index, hsz, h1]

@[simp] theorem beq_self_bool (b : Bool) : (b == b) = true := by cases b <;> rfl
theorem domainIndexes_core : ∀ l, ArgsOK TT0 Try.f6.params.toList l → PCall Try.prog 6 l (.one (.d (.v (.bool true)))) := by
  intro l h
  obtain ⟨n, ds, m, es, h1, h2, rfl⟩ := args2 (t := t_Domain) (u := 27) h
  obtain ⟨d, rfl, hd⟩ := wt_dom n ds h1
  obtain ⟨t, rfl, t0, t1⟩ := wt_vals m es h2
  refine Φ0_ok (dwt d + GV.wtL t + 100) 6 _ _ ?_
  generalize hN : dwt d + GV.wtL t + 99 = N
  show Φ0 (dwt d + GV.wtL t + 99 + 1) i_law19_DomainIndexes [dA d, aL t] = _
  rw [hN, law19_DomainIndexes_run]
  obtain ⟨b, hb, hs⟩ := law19_small_spec d hd N (by omega)
  obtain ⟨b2, hb2, _⟩ := law19_few_spec t t0 t1 N (by omega)
  have e0 := alive_spec N (by omega)
  cases b
  · simp [law19_DomainIndexes, hb, e0]
  · have hs := hs rfl
    have e1 := domain_Index_spec d hd hs t t1 N (by omega)
    have e2 := ref19_Index_spec d hd hs t t1 N (by omega)
    cases b2
    · simp [law19_DomainIndexes, hb, hb2, e0]
    · simp only [law19_DomainIndexes, hb, hb2, e0, e1, e2, Option.bind_some, xAD_d, xDI_v, xDB_v, xDL_sl, xtup_tup, List.getElem?_cons_zero, List.getElem?_cons_succ, xite_decide, xite_not, xite_true, if_true, decide_true, beq_self_bool]
end Go.Av
