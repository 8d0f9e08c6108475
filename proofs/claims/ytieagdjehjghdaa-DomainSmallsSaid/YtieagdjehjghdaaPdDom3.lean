/-
  Domains: the tuple of a number.
-/
import Derived.Test.YtieagdjehjghdaaPdDom2
set_option linter.all false
set_option linter.unusedSimpArgs false
namespace Go.Av

theorem wtL_sub (d : List (List GV)) (a : List GV) (ha : a ∈ d) (g : GV) (hg : g ∈ a) : g.wt < dwt d := by
  have := dwt_mem d a ha
  have := wtL_mem a g hg
  omega

abbrev St6 (d : List (List GV)) (n : Int) (j : Nat) : Int × Unit × (Nat × Nat) × Int × (List (List D) × Unit) × List D × Unit :=
  ((digF (d.drop (d.length - j)) n).2, (), (d.length, d.length), (d.length : Int) - j - 1, (dL d, ()), rawC (d.length - j) (digF (d.drop (d.length - j)) n).1, ())

theorem ref19_tup_loop (d : List (List GV)) (hd : d.length ≤ 12) (h0 : ∀ a ∈ d, 0 < a.length) (n : Int) (n0 : 0 ≤ n) (n1 : n ≤ 9223372036854775807) (Φ : Phi) (f m : Nat) (hm : d.length + 1 ≤ m) :
    iter (fun (x : Int × Unit × (Nat × Nat) × Int × (List (List D) × Unit) × List D × Unit) (rec : (Int × Unit × (Nat × Nat) × Int × (List (List D) × Unit) × List D × Unit) → Option A) => ref19_At_l0 Φ f (fun n10 n11 n12 i13 l14 L15 => rec (n10, (), (n11, n12), i13, (l14, ()), L15, ())) x.1 x.2.2.1.1 x.2.2.1.2 x.2.2.2.1 x.2.2.2.2.1.1 x.2.2.2.2.2.1) m (St6 d n 0) = some (.tup [aL (digF d n).1, aI 0]) := by
  refine iter_ex' (R := A) d.length (fun j x => x = St6 d n j) _ (fun j x rec hj hx hrec => ?_) m 0 _ (by omega) (by omega) rfl
  subst hx
  by_cases hlt : j < d.length
  · obtain ⟨q, hq⟩ : ∃ q, q = d.length - (j + 1) := ⟨_, rfl⟩
    have hqd : q < d.length := by omega
    have e1 : d.length - j = q + 1 := by omega
    have e2 : (d.length : Int) - (j : Int) - 1 = (q : Int) := by omega
    have e3 : (d.length : Int) - ((j + 1 : Nat) : Int) - 1 = (q : Int) - 1 := by omega
    have hr := hrec (St6 d n (j + 1)) hlt rfl
    simp only [St6, ← hq, e3, drop_some d q hqd] at hr
    simp only [digF] at hr
    have hmem := List.getElem_mem hqd
    have a0 := h0 _ hmem
    obtain ⟨r0, r1⟩ := digF_rng (d.drop (q + 1)) n n0
    obtain ⟨i0, i1⟩ := tmod_idx (digF (d.drop (q + 1)) n).2 d[q].length r0 a0
    have hquo := tdiv_quo (digF (d.drop (q + 1)) n).2 d[q].length r0
    have b1 : 0 ≤ (digF (d.drop (q + 1)) n).2 / (d[q].length : Int) := Int.ediv_nonneg r0 (by omega)
    have b2 : (digF (d.drop (q + 1)) n).2 / (d[q].length : Int) ≤ (digF (d.drop (q + 1)) n).2 := Int.ediv_le_self _ r0
    have hw := wrap_i ((digF (d.drop (q + 1)) n).2 / (d[q].length : Int)) (by omega) (by omega)
    have hw2 := wrap_i ((q : Int) - 1) (by omega) (by omega)
    have hne : ¬ (d[q].length : Int) = 0 := by omega
    have hge : (0 : Int) ≤ (q : Int) := by omega
    have hqi : (q : Int) < (d.length : Int) := by omega
    have hgd : d[q].getD ((digF (d.drop (q + 1)) n).2 % (d[q].length : Int)).toNat z0 = d[q][((digF (d.drop (q + 1)) n).2 % (d[q].length : Int)).toNat] := by simp [i1]
    rw [hgd] at hr
    have hle : 0 + q * 4 + 4 ≤ (rawC (q + 1) (digF (d.drop (q + 1)) n).1).length := by
      rw [rawC, List.length_append, length_zs]; omega
    have hx := xlows_map (rawC q (d[q][((digF (d.drop (q + 1)) n).2 % (d[q].length : Int)).toNat] :: (digF (d.drop (q + 1)) n).1))
    simp only [St6, e1, e2]
    simp only [ref19_At_l0, axElem d q hqd, i0, xElem_map 4 GV.cells d[q] _ i1 GV.length_cells, hne, hge, hqi, hle, hquo, hw, hw2, Int.toNat_natCast, rpl_raw, hx, xite_decide, xite_true, xif_decide, Option.bind_some, length_axC, axC0, xDL_sl, xDI_v, xDS_s, GV.length_cells, GV.cells0, GV.cells1, GV.cells2, GV.cells3, List.length_map, Nat.le_refl, if_true, if_false, decide_true, decide_false, Bool.not_false, Bool.and_self, xif_true]
    exact hr
  · have e1 : d.length - j = 0 := by omega
    have e2 : ¬ (0 : Int) ≤ (d.length : Int) - (j : Int) - 1 := by omega
    have hraw : rawC 0 (digF d n).1 = rowC (digF d n).1 := rfl
    have hl : (rowC (digF d n).1).length = d.length * 4 := by rw [length_rowC, digF_len]
    have ht : List.take (d.length * 4) (List.drop 0 ((rowC (digF d n).1).map C.d)) = (rowC (digF d n).1).map C.d := by
      rw [List.drop_zero, List.take_of_length_le (by rw [List.length_map, hl]; exact Nat.le_refl _)]
    have hx := xlows_map (rowC (digF d n).1)
    have hch : chunks 4 d.length (rowC (digF d n).1) = (digF d n).1.map GV.cells := by rw [← chunks_row, digF_len]
    have hle : 0 + d.length * 4 ≤ d.length * 4 := by omega
    simp only [St6, e1, List.drop_zero] 
    simp only [ref19_At_l0, e2, hraw, ht, hx, hch, xite_decide, xif_decide, if_false, Nat.le_refl, List.length_map, hl, hle, decide_true, Bool.and_self, xif_true, Option.bind_some]
theorem domain_tup_loop (d : List (List GV)) (hd : d.length ≤ 12) (h0 : ∀ a ∈ d, 0 < a.length) (n : Int) (n0 : 0 ≤ n) (n1 : n ≤ 9223372036854775807) (Φ : Phi) (hcp : ∀ a ∈ d, ∀ g ∈ a, Φ i_domain_copied [g.toA] = some g.toA) (f m : Nat) (hm : d.length + 1 ≤ m) :
    iter (fun (x : Int × Unit × (Nat × Nat) × Int × (List (List D) × Unit) × List D × Unit) (rec : (Int × Unit × (Nat × Nat) × Int × (List (List D) × Unit) × List D × Unit) → Option A) => domain_tuple_l0 Φ f (fun n10 n11 n12 i13 l14 L15 => rec (n10, (), (n11, n12), i13, (l14, ()), L15, ())) x.1 x.2.2.1.1 x.2.2.1.2 x.2.2.2.1 x.2.2.2.2.1.1 x.2.2.2.2.2.1) m (St6 d n 0) = some (aL (digF d n).1) := by
  refine iter_ex' (R := A) d.length (fun j x => x = St6 d n j) _ (fun j x rec hj hx hrec => ?_) m 0 _ (by omega) (by omega) rfl
  subst hx
  by_cases hlt : j < d.length
  · obtain ⟨q, hq⟩ : ∃ q, q = d.length - (j + 1) := ⟨_, rfl⟩
    have hqd : q < d.length := by omega
    have e1 : d.length - j = q + 1 := by omega
    have e2 : (d.length : Int) - (j : Int) - 1 = (q : Int) := by omega
    have e3 : (d.length : Int) - ((j + 1 : Nat) : Int) - 1 = (q : Int) - 1 := by omega
    have hr := hrec (St6 d n (j + 1)) hlt rfl
    simp only [St6, ← hq, e3, drop_some d q hqd] at hr
    simp only [digF] at hr
    have hmem := List.getElem_mem hqd
    have a0 := h0 _ hmem
    obtain ⟨r0, r1⟩ := digF_rng (d.drop (q + 1)) n n0
    obtain ⟨i0, i1⟩ := tmod_idx (digF (d.drop (q + 1)) n).2 d[q].length r0 a0
    have hquo := tdiv_quo (digF (d.drop (q + 1)) n).2 d[q].length r0
    have b1 : 0 ≤ (digF (d.drop (q + 1)) n).2 / (d[q].length : Int) := Int.ediv_nonneg r0 (by omega)
    have b2 : (digF (d.drop (q + 1)) n).2 / (d[q].length : Int) ≤ (digF (d.drop (q + 1)) n).2 := Int.ediv_le_self _ r0
    have hw := wrap_i ((digF (d.drop (q + 1)) n).2 / (d[q].length : Int)) (by omega) (by omega)
    have hw2 := wrap_i ((q : Int) - 1) (by omega) (by omega)
    have hne : ¬ (d[q].length : Int) = 0 := by omega
    have hge : (0 : Int) ≤ (q : Int) := by omega
    have hqi : (q : Int) < (d.length : Int) := by omega
    have hgd : d[q].getD ((digF (d.drop (q + 1)) n).2 % (d[q].length : Int)).toNat z0 = d[q][((digF (d.drop (q + 1)) n).2 % (d[q].length : Int)).toNat] := by simp [i1]
    rw [hgd] at hr
    have hle : 0 + q * 4 + 4 ≤ (rawC (q + 1) (digF (d.drop (q + 1)) n).1).length := by
      rw [rawC, List.length_append, length_zs]; omega
    have hcg := hcp _ hmem _ (List.getElem_mem i1)
    have hx := xlows_map (rawC q (d[q][((digF (d.drop (q + 1)) n).2 % (d[q].length : Int)).toNat] :: (digF (d.drop (q + 1)) n).1))
    simp only [St6, e1, e2]
    simp only [domain_tuple_l0, axElem d q hqd, i0, xElem_map 4 GV.cells d[q] _ i1 GV.length_cells, hne, hge, hqi, hle, hquo, hw, hw2, Int.toNat_natCast, rpl_raw, hx, hcg, xADs_agg, unD_cons, unD_nil, List.getD_cons_zero, List.getD_cons_succ, List.length_cons, List.length_nil, xite_decide, xite_true, xif_decide, Option.bind_some, length_axC, axC0, xDL_sl, xDI_v, xDS_s, GV.length_cells, GV.cells0, GV.cells1, GV.cells2, GV.cells3, List.length_map, Nat.le_refl, if_true, if_false, decide_true, decide_false, Bool.not_false, Bool.and_self, xif_true]
    exact hr
  · have e1 : d.length - j = 0 := by omega
    have e2 : ¬ (0 : Int) ≤ (d.length : Int) - (j : Int) - 1 := by omega
    have hraw : rawC 0 (digF d n).1 = rowC (digF d n).1 := rfl
    have hl : (rowC (digF d n).1).length = d.length * 4 := by rw [length_rowC, digF_len]
    have ht : List.take (d.length * 4) (List.drop 0 ((rowC (digF d n).1).map C.d)) = (rowC (digF d n).1).map C.d := by
      rw [List.drop_zero, List.take_of_length_le (by rw [List.length_map, hl]; exact Nat.le_refl _)]
    have hx := xlows_map (rowC (digF d n).1)
    have hch : chunks 4 d.length (rowC (digF d n).1) = (digF d n).1.map GV.cells := by rw [← chunks_row, digF_len]
    have hle : 0 + d.length * 4 ≤ d.length * 4 := by omega
    simp only [St6, e1, List.drop_zero] 
    simp only [domain_tuple_l0, e2, hraw, ht, hx, hch, xite_decide, xif_decide, if_false, Nat.le_refl, List.length_map, hl, hle, decide_true, Bool.and_self, xif_true, Option.bind_some]

theorem sizeF_pos (d : List (List GV)) (h : 0 < (sizeF d).1) : ∀ a ∈ d, 0 < a.length := by
  unfold sizeF at h
  split at h
  · exact absurd h (by simp)
  · rename_i hh; exact no_empty d (Bool.eq_false_iff.2 hh)

/-- The tuple of a number, or the error. -/
def atF (d : List (List GV)) (n : Int) : List GV × Int :=
  if (sizeF d).2 ≠ 0 then ([], (sizeF d).2) else if n < 0 then ([], 1) else if (sizeF d).1 ≤ n then ([], 1) else ((digF d n).1, 0)
abbrev twoL (x : List GV × Int) : A := .tup [aL x.1, aI x.2]

theorem domain_tuple_spec (d : List (List GV)) (hs : DSm d) (h0 : ∀ a ∈ d, 0 < a.length) (k : Int) (k0 : 0 ≤ k) (k1 : k ≤ 9223372036854775807) (n : Nat) (hn : dwt d + 6 ≤ n) : Φ0 n i_domain_tuple [dA d, aI k] = some (aL (digF d k).1) := by
  obtain ⟨m, rfl⟩ := nat_succ (n := n) (k := 0) (by omega)
  have hd := hs.len
  have hdl := dwt_len d
  have hcp : ∀ a ∈ d, ∀ g ∈ a, Φ0 m i_domain_copied [g.toA] = some g.toA := fun a ha g hg => domain_copied_spec g (hs.few a ha g hg) m (by have := wtL_sub d a ha g hg; omega)
  have hloop := domain_tup_loop d hd h0 k k0 k1 (Φ0 m) hcp m m (by omega)
  have hw := wrap_i ((d.length : Int) - 1) (by omega) (by omega)
  have hc : (d.length : Int) ≤ 9223372036854775807 := by omega
  have hc2 : 56 * (d.length : Int) ≤ 281474976710656 := by omega
  have hc3 : (0 : Int) ≤ d.length := by omega
  have hz := xlows_zero d.length
  have e1 : St6 d k 0 = (k, (), (d.length, d.length), (d.length : Int) - 1, (dL d, ()), (List.replicate d.length zC).flatten, ()) := by
    simp [St6, digF, rawC, rowC]
  rw [e1] at hloop
  rw [domain_tuple_run, domain_tuple]
  simp only [List.length_map, hz, hw, hc, hc2, hc3, Int.toNat_natCast, decide_true, Bool.and_self, xif_true, Option.bind_some]
  exact hloop

theorem domain_At_spec (d : List (List GV)) (hs : DSm d) (k : Int) (k1 : k ≤ 9223372036854775807) (n : Nat) (hn : dwt d + 8 ≤ n) : Φ0 n i_domain_At [dA d, aI k] = some (twoL (atF d k)) := by
  obtain ⟨m, rfl⟩ := nat_succ (n := n) (k := 0) (by omega)
  have hd := hs.len
  have hdl := dwt_len d
  have hsz := domain_Size_spec d hd hs.ax m (by omega)
  rw [domain_At_run]
  unfold atF
  by_cases h1 : (sizeF d).2 = 0
  · by_cases h2 : k < 0
    · simp [domain_At, hsz, h1, h2]
    · by_cases h3 : (sizeF d).1 ≤ k
      · simp [domain_At, hsz, h1, h2, h3]
      · have ht := domain_tuple_spec d hs (sizeF_pos d (by omega)) k (by omega) k1 m (by omega)
        simp [domain_At, hsz, h1, h2, h3, ht]
  · simp [domain_At, hsz, h1]

theorem ref19_At_spec (d : List (List GV)) (hs : DSm d) (k : Int) (k1 : k ≤ 9223372036854775807) (n : Nat) (hn : dwt d + 8 ≤ n) : Φ0 n i_ref19_At [dA d, aI k] = some (twoL (atF d k)) := by
  obtain ⟨m, rfl⟩ := nat_succ (n := n) (k := 0) (by omega)
  have hd := hs.len
  have hdl := dwt_len d
  have hsz := ref19_Size_spec d hd hs.ax m (by omega)
  rw [ref19_At_run]
  unfold atF
  by_cases h1 : (sizeF d).2 = 0
  · by_cases h2 : k < 0
    · simp [ref19_At, hsz, h1, h2]
    · by_cases h3 : (sizeF d).1 ≤ k
      · simp [ref19_At, hsz, h1, h2, h3]
      · have hloop := ref19_tup_loop d hd (sizeF_pos d (by omega)) k (by omega) k1 (Φ0 m) m m (by omega)
        have hw := wrap_i ((d.length : Int) - 1) (by omega) (by omega)
        have hc : (d.length : Int) ≤ 9223372036854775807 := by omega
        have hc2 : 56 * (d.length : Int) ≤ 281474976710656 := by omega
        have hc3 : (0 : Int) ≤ d.length := by omega
        have hz := xlows_zero d.length
        have e1 : St6 d k 0 = (k, (), (d.length, d.length), (d.length : Int) - 1, (dL d, ()), (List.replicate d.length zC).flatten, ()) := by
          simp [St6, digF, rawC, rowC]
        rw [e1] at hloop
        simp only [ref19_At, hsz, h1, h2, h3, xtup_tup, List.getElem?_cons_zero, List.getElem?_cons_succ, xAD_d, xDI_v, xite_decide, xite_not, if_true, if_false, List.length_map, hz, hw, hc, hc2, hc3, Int.toNat_natCast, decide_true, Bool.and_self, xif_true, Option.bind_some]
        simp only [ne_eq, not_true, if_false]
        exact hloop
  · simp [ref19_At, hsz, h1]

theorem cmpL_self (l : List GV) : GV.cmpL l l = 0 := (cmpL_facts l (fun x _ => ordd x)).2.2.2
theorem ref01_EqualAll_self (l : List GV) (hl : l.length ≤ 9223372036854775807) (n : Nat) (hn : GV.wtL l + 8 ≤ n) (h : ∀ x ∈ l, x.Ok) : Φ0 n i_ref01_EqualAll [aL l, aL l] = some (aB true) := by
  obtain ⟨m, rfl⟩ := nat_succ (n := n) (k := 0) (by omega)
  have hw := GV.wtL_len l
  have hb := ref01_CompareAll_body l l hl m (by omega) (fun x hx y hy => ref01_Compare_spec x (h x hx) y (h y hy) (m - 1) (by have := wtL_mem l x hx; omega))
  rw [ref01_EqualAll_run]
  simp only [ref01_EqualAll, hb, Option.bind_some, xAD_d, xDI_v, cmpL_self, decide_true]
end Go.Av
