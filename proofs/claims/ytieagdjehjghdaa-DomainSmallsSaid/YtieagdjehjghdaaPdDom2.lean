/-
  Domains: the look at smallness, the copy of a value, the tuple of a number.
-/
import Derived.Test.YtieagdjehjghdaaPdDom1
set_option linter.all false
set_option linter.unusedSimpArgs false
namespace Go.Av

structure DOk (d : List (List GV)) : Prop where
  len : d.length ≤ 9223372036854775807
  ax : ∀ a ∈ d, a.length ≤ 9223372036854775807
  ok : ∀ a ∈ d, ∀ g ∈ a, g.Ok
structure DSm (d : List (List GV)) : Prop where
  len : d.length ≤ 12
  ax : ∀ a ∈ d, a.length ≤ 70
  few : ∀ a ∈ d, ∀ g ∈ a, g.Few

def dwt : List (List GV) → Nat
  | [] => 0
  | a :: d => 1 + GV.wtL a + dwt d
theorem dwt_len : ∀ d, d.length ≤ dwt d
  | [] => Nat.le_refl _
  | a :: d => by have := dwt_len d; simp [dwt]; omega
theorem dwt_mem : ∀ d, ∀ a ∈ d, GV.wtL a < dwt d
  | b :: d, a, h => by
    rcases List.mem_cons.1 h with rfl | h
    · simp [dwt]; omega
    · have := dwt_mem d a h; simp [dwt]; omega
theorem wtL_mem (l : List GV) (g : GV) (h : g ∈ l) : g.wt ≤ GV.wtL l := by
  obtain ⟨k, hk, rfl⟩ := List.mem_iff_getElem.1 h
  have := (GV.wtL_get l k hk).2
  omega

theorem law19_small_spec (d : List (List GV)) (ho : DOk d) (n : Nat) (hn : dwt d + 8 ≤ n) : ∃ b, Φ0 n i_law19_small [dA d] = some (aB b) ∧ (b = true → DSm d) := by
  obtain ⟨m, rfl⟩ := nat_succ (n := n) (k := 0) (by omega)
  have hdl := dwt_len d
  rw [law19_small_run, law19_small]
  by_cases h12 : (12 : Int) < ((dL d).length : Int)
  · refine ⟨false, ?_, fun h => by cases h⟩
    simp only [h12, xite_decide, if_true]
  · have h12' : d.length ≤ 12 := by simp at h12; omega
    simp only [h12, xite_decide, if_false]
    have key := iter_ex (R := A) d.length (fun k (x : Unit × Int × (List (List D) × Unit) × Unit) => x = ((), (k : Int), (dL d, ()), ()) ∧ ∀ j (hj : j < d.length), j < k → d[j].length ≤ 70 ∧ ∀ g ∈ d[j], g.Few) (fun r => ∃ b, r = aB b ∧ (b = true → DSm d))
      (F := fun (x : Unit × Int × (List (List D) × Unit) × Unit) (rec : (Unit × Int × (List (List D) × Unit) × Unit) → Option A) => law19_small_l0 (Φ0 m) m (fun i2 l3 => rec ((), i2, (l3, ()), ())) x.2.1 x.2.2.1.1)
      (fun k x rec hk hx hrec => by
        obtain ⟨rfl, hx⟩ := hx
        by_cases hlt : k < d.length
        · have hlt' : (k : Int) < d.length := by omega
          have hmem := List.getElem_mem hlt
          have hw := wrap_i (k + 1) (by omega) (by omega)
          have hwt := dwt_mem d _ hmem
          have hal := GV.wtL_len d[k]
          by_cases h70 : (70 : Int) < (d[k].length : Int)
          · refine ⟨_, ?_, false, rfl, fun h => by cases h⟩
            simp only [law19_small_l0, axElem d k hlt, hlt', h70, xite_decide, xif_decide, Option.bind_some, length_axC, axC0, xDL_sl, List.length_map, Nat.le_refl, if_true]
          · simp only [law19_small_l0, axElem d k hlt, hlt', h70, xite_decide, xif_decide, Option.bind_some, length_axC, axC0, xDL_sl, List.length_map, Nat.le_refl, if_true, if_false]
            refine iter_ex (R := A) d[k].length (fun q (x : Unit × Int × Int × (List (List D) × Unit) × Unit) => x = ((), (k : Int), (q : Int), (dL d, ()), ()) ∧ ∀ j (hj : j < d[k].length), j < q → d[k][j].Few) (fun r => ∃ b, r = aB b ∧ (b = true → DSm d)) (fun q x rec2 hq hx2 hrec2 => ?_) m 0 _ (by omega) (by omega) ⟨rfl, fun j hj h0 => absurd h0 (Nat.not_lt_zero _)⟩
            obtain ⟨rfl, hx2⟩ := hx2
            by_cases hql : q < d[k].length
            · have hql' : (q : Int) < d[k].length := by omega
              have hgm := List.getElem_mem hql
              have hgw := wtL_mem _ _ hgm
              have hw2 := wrap_i (q + 1) (by omega) (by omega)
              obtain ⟨b, hb, hf⟩ := ref01_Small_spec d[k][q] (ho.ok _ hmem _ hgm) m (by omega)
              simp only [law19_small_l1, axElem d k hlt, hql', xElem_map 4 GV.cells d[k] q hql GV.length_cells, hb, hw2, xite_decide, xite_not, xif_decide, Option.bind_some, length_axC, axC0, xDL_sl, xDI_v, xDS_s, xAD_d, xDB_v, GV.length_cells, GV.cells0, GV.cells1, GV.cells2, GV.cells3, List.length_map, Nat.le_refl, if_true, if_false]
              cases b
              · exact ⟨_, rfl, false, rfl, fun h => by cases h⟩
              · simp only [xite_true]
                refine hrec2 _ hql ⟨rfl, fun j hj h1 => ?_⟩
                by_cases hjq : j = q
                · subst hjq; exact hf rfl
                · exact hx2 j hj (by omega)
            · have hql' : ¬ (q : Int) < d[k].length := by omega
              simp only [law19_small_l1, axElem d k hlt, hql', hw, xite_decide, xif_decide, Option.bind_some, length_axC, axC0, xDL_sl, List.length_map, Nat.le_refl, if_true, if_false]
              refine hrec _ hlt ⟨rfl, fun j hj h1 => ?_⟩
              by_cases hjk : j = k
              · subst hjk
                refine ⟨by omega, fun g hg => ?_⟩
                obtain ⟨i, hi, rfl⟩ := List.mem_iff_getElem.1 hg
                exact hx2 i hi (by omega)
              · exact hx j hj (by omega)
        · have hlt' : ¬ (k : Int) < d.length := by omega
          refine ⟨_, ?_, true, rfl, fun _ => ?_⟩
          · simp only [law19_small_l0, hlt', xite_decide, List.length_map, if_false]
          · exact ⟨h12', fun a ha => by obtain ⟨i, hi, rfl⟩ := List.mem_iff_getElem.1 ha; exact (hx i hi (by omega)).1, fun a ha => by obtain ⟨i, hi, rfl⟩ := List.mem_iff_getElem.1 ha; exact (hx i hi (by omega)).2⟩)
      m 0 ((), (0 : Int), (dL d, ()), ()) (by omega) (by omega) ⟨rfl, fun j hj h0 => absurd h0 (Nat.not_lt_zero _)⟩
    obtain ⟨r, hr, b, rfl, hb⟩ := key
    exact ⟨b, hr, hb⟩

theorem GV.Few.len {g : GV} (h : g.Few) : g.items.length ≤ 90 := by cases h; assumption
theorem GV.Few.get {g : GV} (h : g.Few) : ∀ x ∈ g.items, x.Few := by cases h; assumption

theorem domain_copied_spec (g : GV) : g.Few → ∀ n, g.wt + 2 ≤ n → Φ0 n i_domain_copied [g.toA] = some g.toA := by
  refine GV.ind (p := fun g => g.Few → ∀ n, g.wt + 2 ≤ n → Φ0 n i_domain_copied [g.toA] = some g.toA) (fun g ih hf n hn => ?_) g
  obtain ⟨m, rfl⟩ := nat_succ (n := n) (k := 0) (by omega)
  rw [GV.wt_eq] at hn
  have hl := GV.wtL_len g.items
  have h90 := hf.len
  rw [domain_copied_run, domain_copied]
  simp only [decide_true, xif_true, List.length_map]
  refine iter_ex' (R := A) g.items.length (fun k x => x = ((), (), (g.items.take k).map GV.cells, g.items.map GV.cells, (g.items.length : Int), (k : Int), (g.ty, g.num, g.text, g.items.map GV.cells, ()), (0, 0, [], [], ()), ())) g.toA (fun k x rec hk hx hrec => ?_) m 0 _ (by omega) (by omega) rfl
  subst hx
  by_cases hlt : k < g.items.length
  · have hlt' : (k : Int) < g.items.length := by omega
    have hw := wrap_i (k + 1) (by omega) (by omega)
    have hm := List.getElem_mem hlt
    have hgw := wtL_mem _ _ hm
    have hc := ih _ hm (hf.get _ hm) m (by omega)
    have happ : xApp 4 56 ((g.items.take k).map GV.cells).length ((g.items.take k).map GV.cells) [[D.v (.int .i64 g.items[k].ty), D.v (.int .i64 g.items[k].num), D.s g.items[k].text, D.sl (g.items[k].items.map GV.cells)]] = some ((g.items.take (k + 1)).map GV.cells) := by
      unfold xApp
      rw [if_pos ⟨rfl, by simp, fun c hc => by obtain ⟨g', _, rfl⟩ := List.mem_map.1 hc; exact GV.length_cells g', by simp; omega⟩, List.take_succ_eq_append_getElem hlt, List.map_append, List.map_singleton, GV.cells_eq g.items[k]]
    simp only [domain_copied_l0, xElem_map 4 GV.cells g.items k hlt GV.length_cells, hlt', hw, hc, happ, xite_decide, xif_decide, Option.bind_some, xADs_agg, unD_cons, unD_nil, GV.length_cells, GV.cells0, GV.cells1, GV.cells2, GV.cells3, xDL_sl, xDI_v, xDS_s, List.getD_cons_zero, List.getD_cons_succ, List.length_cons, List.length_nil, Nat.le_refl, if_true]
    exact hrec _ hlt rfl
  · have hlt' : ¬ (k : Int) < g.items.length := by omega
    simp only [domain_copied_l0, hlt', xite_decide, if_false]
    rw [List.take_of_length_le (by omega)]

/-! The tuple of a number. -/
def z0 : GV := .mk 0 0 [] []
/-- The tuple of a number from the last axis on, and what is left of the number. -/
def digF : List (List GV) → Int → List GV × Int
  | [], n => ([], n)
  | a :: d, n => (a.getD ((digF d n).2 % a.length).toNat z0 :: (digF d n).1, (digF d n).2 / a.length)
theorem digF_len : ∀ (d : List (List GV)) (n : Int), (digF d n).1.length = d.length
  | [], _ => rfl
  | a :: d, n => by simp [digF, digF_len d n]
theorem digF_rng : ∀ (d : List (List GV)) (n : Int), 0 ≤ n → 0 ≤ (digF d n).2 ∧ (digF d n).2 ≤ n
  | [], n, h => ⟨h, Int.le_refl _⟩
  | a :: d, n, h => by
    obtain ⟨h1, h2⟩ := digF_rng d n h
    have h3 : 0 ≤ (digF d n).2 / (a.length : Int) := Int.ediv_nonneg h1 (by omega)
    have h4 : (digF d n).2 / (a.length : Int) ≤ (digF d n).2 := Int.ediv_le_self _ h1
    simp only [digF]
    omega

def zC : List D := [.v (.int .i64 0), .v (.int .i64 0), .s [], .sl []]
def rowC (l : List GV) : List D := (l.map GV.cells).flatten
def rawC (q : Nat) (l : List GV) : List D := (List.replicate q zC).flatten ++ rowC l
theorem length_rowC (l : List GV) : (rowC l).length = l.length * 4 := by
  induction l with
  | nil => rfl
  | cons g l ih => simp only [rowC, List.map_cons, List.flatten_cons, List.length_append, GV.length_cells, List.length_cons] at ih ⊢; omega
theorem length_zs (q : Nat) : (List.replicate q zC).flatten.length = q * 4 := by
  induction q with
  | zero => rfl
  | succ q ih => have hz : zC.length = 4 := rfl; simp only [List.replicate_succ, List.flatten_cons, List.length_append, ih, hz]; omega
theorem xlows_map (l : List D) : xlows (l.map C.d) = some l := by
  induction l with
  | nil => rfl
  | cons d l ih => simp [xlows, low, ih]
theorem xlows_zero (q : Nat) : xlows (List.flatten (List.replicate q [C.d (D.v (.int .i64 0)), C.d (D.v (.int .i64 0)), C.d (D.s []), C.full []])) = some (List.replicate q zC).flatten := by
  induction q with
  | zero => rfl
  | succ q ih => simp only [List.replicate_succ, List.flatten_cons, List.cons_append, List.nil_append, xlows, low, ih, Option.bind_some, zC]
theorem rpl_mid {α : Type} (A Z ys T : List α) (off : Nat) (h1 : A.length = off) (h2 : Z.length = ys.length) : rpl (A ++ (Z ++ T)) off ys = A ++ (ys ++ T) := by
  subst h1
  unfold rpl
  rw [List.take_left, ← h2, List.append_assoc, ← List.append_assoc A Z T]
  congr 2
  have : A.length + Z.length = (A ++ Z).length := by simp
  rw [this, List.drop_left]
theorem rpl_raw (q : Nat) (l : List GV) (g : GV) : rpl ((rawC (q + 1) l).map C.d) (0 + q * 4) [C.d (D.v (.int .i64 g.ty)), C.d (D.v (.int .i64 g.num)), C.d (D.s g.text), C.d (D.sl (g.items.map GV.cells))] = (rawC q (g :: l)).map C.d := by
  have e : [C.d (D.v (.int .i64 g.ty)), C.d (D.v (.int .i64 g.num)), C.d (D.s g.text), C.d (D.sl (g.items.map GV.cells))] = g.cells.map C.d := by rw [GV.cells_eq]; rfl
  have e2 : rawC (q + 1) l = (List.replicate q zC).flatten ++ (zC ++ rowC l) := by simp [rawC, List.replicate_succ', List.append_assoc]
  rw [e, e2, List.map_append, List.map_append, rpl_mid _ _ _ _ _ (by rw [List.length_map, length_zs]; omega) (by simp [zC]), ← List.map_append, ← List.map_append]
  rfl
theorem chunks_row (l : List GV) : chunks 4 l.length (rowC l) = l.map GV.cells := by
  induction l with
  | nil => rfl
  | cons g l ih =>
    have e : rowC (g :: l) = g.cells ++ rowC l := rfl
    have h4 : 4 = g.cells.length := by simp
    simp only [List.length_cons, chunks, List.map_cons, e]
    rw [← ih]
    congr 1
    · conv => lhs; arg 1; rw [h4]
      rw [List.take_left]
    · congr 1
      conv => lhs; arg 1; rw [h4]
      rw [List.drop_left]
theorem tmod_idx (n : Int) (q : Nat) (h : 0 ≤ n) (hq : 0 < q) : Int.tmod n q = ((n % q).toNat : Int) ∧ (n % q).toNat < q := by
  have h1 : Int.tmod n q = n % q := Int.tmod_eq_emod_of_nonneg h
  have h2 : 0 ≤ n % (q : Int) := Int.emod_nonneg _ (by omega)
  have h3 : n % (q : Int) < q := Int.emod_lt_of_pos _ (by omega)
  rw [h1]; omega
theorem tdiv_quo (n : Int) (q : Nat) (h : 0 ≤ n) : Int.tdiv n q = n / q := Int.tdiv_eq_ediv_of_nonneg h
end Go.Av
