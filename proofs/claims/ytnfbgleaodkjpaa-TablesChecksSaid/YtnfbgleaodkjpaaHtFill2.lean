/-
  Filled tables: the program's and the specification's go the same way.
-/
import Derived.Test.YtnfbgleaodkjpaaHtClone
set_option linter.all false
set_option linter.unusedSimpArgs false
namespace Go.Av

theorem RwP.at {b : Bool} {H : Hp} {rc : C} {r : Row} (h : RwP (some b) H rc r) (j : Nat) (hj : j < r.length) : ∃ p, hAddr rc (j : Int) = some p ∧ hLoad H p = some (sC r[j]) ∧
    ∀ s : Txt, ∃ H1, hStore H p (sC s) = some H1 ∧ But rc H H1 ∧ RwP (some b) H1 rc (r.set j s) := by
  rcases h with ⟨rfl, _⟩ | ⟨k, rfl, h2⟩
  · simp at hj
  · have hkl := hGet_lt h2
    refine ⟨.hp k j, ?_, ?_, fun s => ?_⟩
    · simp only [hAddr]; rw [if_pos (by omega)]; simp
    · simp only [hLoad, h2, Option.bind_some]; simp [hj]
    · refine ⟨H.set k (some ⟨(r.set j s).map sC, b⟩), ?_, ⟨by simp, fun q _ hq => hGet_set_ne (fun e => hq (by rw [e]; rfl)) _⟩, .inr ⟨k, by simp, hGet_set_self hkl _⟩⟩
      simp only [hStore, h2, Option.bind_some]
      rw [if_pos ⟨by simpa using hj, rfl⟩]
      congr 4
      apply List.ext_getElem?
      intro a
      rw [getElem?_rpl _ _ _ (by simp; omega), List.getElem?_map, List.getElem?_map, List.getElem?_set]
      by_cases ha : j = a
      · subst ha; simp [hj]
      · simp only [ha, if_false]
        split
        · rfl
        · split
          · rename_i u1 u2; simp only [List.length_singleton] at u2; omega
          · rfl

def step (i k : Nat) (t : Tab) : Tab := if (t.getD i []).getD k [] = [] then t.set i ((t.getD i []).set k ((t.getD (i - 1) []).getD k [])) else t
def rowN (i : Nat) : Nat → Nat → Tab → Tab
  | 0, _, t => t
  | m + 1, k, t => rowN i m (k + 1) (step i k t)
def allN : Nat → Nat → Tab → Tab
  | 0, _, t => t
  | m + 1, i, t => allN m (i + 1) (rowN i (t.getD i []).length 0 t)
def fillF (t : Tab) : Tab := if chk t ≠ 0 then [] else allN (t.length - 1) 1 t

/-- So many rows, all of a length. -/
def Shp (n m : Nat) (t : Tab) : Prop := t.length = n ∧ ∀ r ∈ t, r.length = m
theorem Shp.get {n m : Nat} {t : Tab} (h : Shp n m t) (i : Nat) (hi : i < n) : ∃ hi' : i < t.length, t[i].length = m ∧ t.getD i [] = t[i] := by
  have hi' : i < t.length := by rw [h.1]; exact hi
  exact ⟨hi', h.2 _ (List.getElem_mem hi'), by simp [hi']⟩
theorem Shp.set {n m : Nat} {t : Tab} (h : Shp n m t) (i : Nat) (r : Row) (hr : r.length = m) : Shp n m (t.set i r) := by
  refine ⟨by simp [h.1], fun q hq => ?_⟩
  rcases List.mem_or_eq_of_mem_set hq with hq | rfl
  · exact h.2 q hq
  · exact hr
theorem Shp.step {n m : Nat} {t : Tab} (h : Shp n m t) (i k : Nat) (hi : i < n) : Shp n m (step i k t) := by
  unfold Av.step
  split
  · obtain ⟨hi', h1, h2⟩ := h.get i hi
    exact h.set i _ (by rw [h2]; simp [h1])
  · exact h

theorem ref08_Fill_gen (t : Tab) (n : Nat) (hn : 1100 ≤ n) (f : Nat) (hf : 1001 ≤ f) :
    ∃ c' H', ref08_Fill (O0 n).Φ (O0 n).Ψ f (tD t) [] = some (.one c', H') ∧ RdT H' c' (fillF t) := by
  have hc := ref08_Check_spec t n (by omega)
  simp only [ref08_Fill, Option.bind_some, hc, xAD_d, xDI_v, xite_decide, xite_not]
  unfold fillF
  by_cases h0 : chk t = 0
  · simp only [h0, if_true, ne_eq, not_true, if_false]
    have hlen := chk_len h0
    have hrows := chk_row h0
    obtain ⟨c, H, e1, _, e2, e3⟩ := ref08_table_muΨ (RdT.data [] t) (by omega) (fun r hr => by have := (hrows r hr).2.1; omega) n (by omega)
    simp only [e1, Option.bind_some, xone_one, e2.rd.hok, xif_tt]
    have hsh : Shp t.length (cols t) t := ⟨rfl, fun r hr => (hrows r hr).2.2.1⟩
    have hcols := chk_cols h0
    rcases Nat.eq_zero_or_pos t.length with ht0 | htpos
    · have hl0 : ¬ (1 : Int) < (t.length : Nat) := by omega
      obtain ⟨g, rfl⟩ : ∃ g, f = g + 1 := ⟨f - 1, by omega⟩
      have hok : xokR (.one c) = true := e2.rd.hok
      refine ⟨c, H, ?_, by rw [ht0]; exact e2.rd⟩
      simp only [iter, ref08_Fill_l0, e2.rd.len, Option.bind_some, xite_decide, hl0, if_false, hok, xif_tt]
    have key := iter_ex (R := A × Hp) t.length (fun i (x : Hp × C × Int × Unit) => ∃ H1 cur, x = (H1, c, (i : Int), ()) ∧ 1 ≤ i ∧ MuT 0 (fun _ => some false) H1 c cur ∧ Shp t.length (cols t) cur ∧ allN (t.length - i) i cur = allN (t.length - 1) 1 t) (fun p => ∃ c' H', p = (.one c', H') ∧ RdT H' c' (allN (t.length - 1) 1 t))
      (F := fun (x : Hp × C × Int × Unit) (rec : (Hp × C × Int × Unit) → Option (A × Hp)) => ref08_Fill_l0 (O0 n).Φ (O0 n).Ψ f (fun a b c => rec (a, b, c, ())) x.1 x.2.1 x.2.2.1)
      (fun i x rec hi hx hrec => by
        obtain ⟨H1, cur, rfl, hi1, hm, hs, hall⟩ := hx
        by_cases hlt : i < t.length
        · have hw := wrap_i (i + 1) (by omega) (by omega)
          have hlt' : (i : Int) < (t.length : Nat) := by omega
          have hll := hm.rd.len
          rw [hs.1] at hll
          simp only [ref08_Fill_l0, hll, Option.bind_some, xite_decide, hlt', if_true, hm.rd.hok, xif_tt]
          refine iter_ex (R := A × Hp) (cols t) (fun k (x : Hp × C × Int × Int × Unit) => ∃ H1 cur, x = (H1, c, (i : Int), (k : Int), ()) ∧ MuT 0 (fun _ => some false) H1 c cur ∧ Shp t.length (cols t) cur ∧ allN (t.length - (i + 1)) (i + 1) (rowN i (cols t - k) k cur) = allN (t.length - 1) 1 t) _
            (fun k x rec2 hk hx hrec2 => by
              obtain ⟨H1, cur, rfl, hm, hs, hall⟩ := hx
              obtain ⟨hi', g1, g2⟩ := hs.get i hlt
              obtain ⟨p, rc, a1, a2, a3, a4, _, a6⟩ := hm.at (Nat.zero_le _) i hi'
              have hrl := a3.rd.len
              rw [g1] at hrl
              by_cases hkl : k < cols t
              · have hwk := wrap_i (k + 1) (by omega) (by omega)
                have hkl' : (k : Int) < (cols t : Nat) := by omega
                obtain ⟨p2, b1, b2, b3⟩ := a3.at k (by omega)
                obtain ⟨m, hm2⟩ : ∃ m, cols t - k = m + 1 := ⟨cols t - k - 1, by omega⟩
                rw [hm2, rowN, show m = cols t - (k + 1) by omega] at hall
                have hgk : (cur.getD i []).getD k [] = cur[i][k] := by rw [g2]; simp [show k < cur[i].length by omega]
                simp only [ref08_Fill_l1, a1, a2, hrl, Option.bind_some, xite_decide, hkl', if_true, b1, b2, xS_s]
                by_cases he : cur[i][k] = []
                · obtain ⟨hj', q1, q2⟩ := hs.get (i - 1) (by omega)
                  obtain ⟨p3, rc3, d1, d2, d3, _, _, _⟩ := hm.at (Nat.zero_le _) (i - 1) hj'
                  obtain ⟨p4, f1, f2, _⟩ := d3.at k (by omega)
                  obtain ⟨H2, j1, j2, j3⟩ := b3 cur[i - 1][k]
                  obtain ⟨l1, _⟩ := a6 (some false) H2 _ j2 j3
                  rw [upd_const] at l1
                  have hwi : IntKind.i64.wrap ((i : Int) - 1) = ((i - 1 : Nat) : Int) := by rw [wrap_i _ (by omega) (by omega)]; omega
                  have hst : step i k cur = cur.set i (cur[i].set k cur[i - 1][k]) := by
                    unfold Av.step
                    rw [hgk, if_pos he, g2, q2]
                    congr 2
                    simp [show k < cur[i - 1].length by omega]
                  simp only [he, if_true, hwi, d1, d2, f1, f2, xS_s, Option.bind_some, j1, hm.rd.hok, xif_tt, hwk]
                  exact hrec2 _ hkl ⟨H2, _, rfl, l1, hst ▸ hs.step i k hlt, by rw [← hst]; exact hall⟩
                · have hst : step i k cur = cur := by unfold Av.step; rw [hgk, if_neg he]
                  simp only [he, if_false, hm.rd.hok, xif_tt, hwk]
                  exact hrec2 _ hkl ⟨H1, cur, rfl, hm, hs, by rw [hst] at hall; exact hall⟩
              · have hkl' : ¬ (k : Int) < (cols t : Nat) := by omega
                have hk0 : cols t - k = 0 := by omega
                rw [hk0, rowN] at hall
                simp only [ref08_Fill_l1, a1, a2, hrl, Option.bind_some, xite_decide, hkl', if_false, hm.rd.hok, xif_tt, hw]
                exact hrec _ hlt ⟨H1, cur, rfl, by omega, hm, hs, hall⟩) f 0 (H1, c, (i : Int), (0 : Int), ()) (by omega) (by omega) ⟨H1, cur, rfl, hm, hs, ?_⟩
          obtain ⟨hi', g1, g2⟩ := hs.get i hlt
          obtain ⟨m, hm2⟩ : ∃ m, t.length - i = m + 1 := ⟨t.length - i - 1, by omega⟩
          rw [hm2, allN, g2, g1] at hall
          rw [show t.length - (i + 1) = m by omega]
          exact hall
        · have hlt' : ¬ (i : Int) < (t.length : Nat) := by omega
          have hok : xokR (.one c) = true := hm.rd.hok
          have hll := hm.rd.len
          rw [hs.1] at hll
          rw [show t.length - i = 0 by omega, allN] at hall
          simp only [ref08_Fill_l0, hll, Option.bind_some, xite_decide, hlt', if_false, hok, xif_tt]
          exact ⟨_, rfl, c, H1, rfl, by rw [← hall]; exact hm.rd⟩) f 1 (H, c, (1 : Int), ()) (by omega) (by omega) ⟨H, t, rfl, Nat.le_refl _, e2, hsh, rfl⟩
    obtain ⟨_, hr, c', H', rfl, h1⟩ := key
    exact ⟨c', H', hr, h1⟩
  · simp only [h0, if_false, ne_eq, not_false_eq_true, if_true]
    exact ⟨_, _, rfl, .inr (.inl ⟨rfl, rfl⟩)⟩
theorem ref08_Fill_spec (t : Tab) (n : Nat) (hn : 1101 ≤ n) : (O0 n).Φ i_ref08_Fill [aT t] = some (aT (fillF t)) := by
  obtain ⟨m, rfl⟩ := nat_succ (n := n) (k := 0) (by omega)
  obtain ⟨c', H', h1, h2⟩ := ref08_Fill_gen t m (by omega) m (by omega)
  rw [ref08_Fill_run, h1, Option.bind_some]
  simp only [xlowR, h2.low 1, Option.bind_some]
end Go.Av

set_option linter.unusedSimpArgs false
namespace Go.Av

theorem tables_Fill_gen (t : Tab) (n : Nat) (hn : 1100 ≤ n) (f : Nat) (hf : 1001 ≤ f) :
    ∃ c' H', tables_Fill (O0 n).Φ (O0 n).Ψ f (tD t) [] = some (.one c', H') ∧ RdT H' c' (fillF t) := by
  have hc := tables_Check_spec t n (by omega)
  simp only [tables_Fill, Option.bind_some, hc, xAD_d, xDI_v, xite_decide, xite_not]
  unfold fillF
  by_cases h0 : chk t = 0
  · simp only [h0, if_true, ne_eq, not_true, if_false]
    have hlen := chk_len h0
    have hrows := chk_row h0
    obtain ⟨c, H, e1, e2, e3⟩ := tables_clone_Ψ t (by omega) (fun r hr => by have := hrows r hr; omega) [] n (by omega)
    simp only [e1, Option.bind_some, xone_one, e2.rd.hok, xif_tt]
    have hsh : Shp t.length (cols t) t := ⟨rfl, fun r hr => (hrows r hr).2.2.1⟩
    have hcols := chk_cols h0
    rcases Nat.eq_zero_or_pos t.length with ht0 | htpos
    · have hl0 : ¬ (1 : Int) < (t.length : Nat) := by omega
      obtain ⟨g, rfl⟩ : ∃ g, f = g + 1 := ⟨f - 1, by omega⟩
      have hok : xokR (.one c) = true := e2.rd.hok
      refine ⟨c, H, ?_, by rw [ht0]; exact e2.rd⟩
      simp only [iter, tables_Fill_l0, e2.rd.len, Option.bind_some, xite_decide, hl0, if_false, hok, xif_tt]
    have key := iter_ex (R := A × Hp) t.length (fun i (x : Hp × C × Int × Unit) => ∃ H1 cur, x = (H1, c, (i : Int), ()) ∧ 1 ≤ i ∧ MuT 0 (fun _ => some true) H1 c cur ∧ Shp t.length (cols t) cur ∧ allN (t.length - i) i cur = allN (t.length - 1) 1 t) (fun p => ∃ c' H', p = (.one c', H') ∧ RdT H' c' (allN (t.length - 1) 1 t))
      (F := fun (x : Hp × C × Int × Unit) (rec : (Hp × C × Int × Unit) → Option (A × Hp)) => tables_Fill_l0 (O0 n).Φ (O0 n).Ψ f (fun a b c => rec (a, b, c, ())) x.1 x.2.1 x.2.2.1)
      (fun i x rec hi hx hrec => by
        obtain ⟨H1, cur, rfl, hi1, hm, hs, hall⟩ := hx
        by_cases hlt : i < t.length
        · have hw := wrap_i (i + 1) (by omega) (by omega)
          have hlt' : (i : Int) < (t.length : Nat) := by omega
          have hll := hm.rd.len
          rw [hs.1] at hll
          obtain ⟨hi0, g01, g02⟩ := hs.get i hlt
          obtain ⟨p0, rc0, a01, a02, a03, _, _, _⟩ := hm.at (Nat.zero_le _) i hi0
          have hrl0 := a03.rd.len
          rw [g01] at hrl0
          simp only [tables_Fill_l0, hll, Option.bind_some, xite_decide, hlt', if_true, hm.rd.hok, xif_tt, a01, a02, hrl0, a03.rd.hok]
          refine iter_ex (R := A × Hp) (cols t) (fun k (x : Hp × C × Int × C × Int × Int × Unit) => ∃ H1 cur, x = (H1, c, (i : Int), rc0, (cols t : Int), (k : Int), ()) ∧ hLoad H1 p0 = some rc0 ∧ MuT 0 (fun _ => some true) H1 c cur ∧ Shp t.length (cols t) cur ∧ allN (t.length - (i + 1)) (i + 1) (rowN i (cols t - k) k cur) = allN (t.length - 1) 1 t) _
            (fun k x rec2 hk hx hrec2 => by
              obtain ⟨H1, cur, rfl, hld, hm, hs, hall⟩ := hx
              obtain ⟨hi', g1, g2⟩ := hs.get i hlt
              obtain ⟨p, rc, a1, a2, a3, a4, _, a6⟩ := hm.at (Nat.zero_le _) i hi'
              rw [a01] at a1
              simp only [Option.some.injEq] at a1
              subst a1
              rw [hld] at a2
              simp only [Option.some.injEq] at a2
              subst a2
              have hrl := a3.rd.len
              rw [g1] at hrl
              by_cases hkl : k < cols t
              · have hwk := wrap_i (k + 1) (by omega) (by omega)
                have hkl' : (k : Int) < (cols t : Nat) := by omega
                obtain ⟨p2, b1, b2, b3⟩ := a3.at k (by omega)
                obtain ⟨m, hm2⟩ : ∃ m, cols t - k = m + 1 := ⟨cols t - k - 1, by omega⟩
                rw [hm2, rowN, show m = cols t - (k + 1) by omega] at hall
                have hgk : (cur.getD i []).getD k [] = cur[i][k] := by rw [g2]; simp [show k < cur[i].length by omega]
                simp only [tables_Fill_l1, Option.bind_some, xite_decide, hkl', if_true, b1, b2, xS_s]
                by_cases he : cur[i][k] = []
                · obtain ⟨hj', q1, q2⟩ := hs.get (i - 1) (by omega)
                  obtain ⟨p3, rc3, d1, d2, d3, _, _, _⟩ := hm.at (Nat.zero_le _) (i - 1) hj'
                  obtain ⟨p4, f1, f2, _⟩ := d3.at k (by omega)
                  obtain ⟨H2, j1, j2, j3⟩ := b3 cur[i - 1][k]
                  obtain ⟨l1, l2⟩ := a6 (some true) H2 _ j2 j3
                  rw [upd_const] at l1
                  have hwi : IntKind.i64.wrap ((i : Int) - 1) = ((i - 1 : Nat) : Int) := by rw [wrap_i _ (by omega) (by omega)]; omega
                  have hst : step i k cur = cur.set i (cur[i].set k cur[i - 1][k]) := by
                    unfold Av.step
                    rw [hgk, if_pos he, g2, q2]
                    congr 2
                    simp [show k < cur[i - 1].length by omega]
                  simp only [he, if_true, a01, hld, hwi, d1, d2, f1, f2, xS_s, Option.bind_some, b1, j1, hm.rd.hok, a3.rd.hok, xif_tt, hwk]
                  exact hrec2 _ hkl ⟨H2, _, rfl, l2, l1, hst ▸ hs.step i k hlt, by rw [← hst]; exact hall⟩
                · have hst : step i k cur = cur := by unfold Av.step; rw [hgk, if_neg he]
                  simp only [he, if_false, hm.rd.hok, a3.rd.hok, xif_tt, hwk]
                  exact hrec2 _ hkl ⟨H1, cur, rfl, hld, hm, hs, by rw [hst] at hall; exact hall⟩
              · have hkl' : ¬ (k : Int) < (cols t : Nat) := by omega
                have hk0 : cols t - k = 0 := by omega
                rw [hk0, rowN] at hall
                simp only [tables_Fill_l1, xite_decide, hkl', if_false, hm.rd.hok, xif_tt, hw]
                exact hrec _ hlt ⟨H1, cur, rfl, by omega, hm, hs, hall⟩) f 0 (H1, c, (i : Int), rc0, (cols t : Int), (0 : Int), ()) (by omega) (by omega) ⟨H1, cur, rfl, a02, hm, hs, ?_⟩
          obtain ⟨hi', g1, g2⟩ := hs.get i hlt
          obtain ⟨m, hm2⟩ : ∃ m, t.length - i = m + 1 := ⟨t.length - i - 1, by omega⟩
          rw [hm2, allN, g2, g1] at hall
          rw [show t.length - (i + 1) = m by omega]
          exact hall
        · have hlt' : ¬ (i : Int) < (t.length : Nat) := by omega
          have hok : xokR (.one c) = true := hm.rd.hok
          have hll := hm.rd.len
          rw [hs.1] at hll
          rw [show t.length - i = 0 by omega, allN] at hall
          simp only [tables_Fill_l0, hll, Option.bind_some, xite_decide, hlt', if_false, hok, xif_tt]
          exact ⟨_, rfl, c, H1, rfl, by rw [← hall]; exact hm.rd⟩) f 1 (H, c, (1 : Int), ()) (by omega) (by omega) ⟨H, t, rfl, Nat.le_refl _, e2, hsh, rfl⟩
    obtain ⟨_, hr, c', H', rfl, h1⟩ := key
    exact ⟨c', H', hr, h1⟩
  · simp only [h0, if_false, ne_eq, not_false_eq_true, if_true]
    exact ⟨_, _, rfl, .inr (.inl ⟨rfl, rfl⟩)⟩
theorem tables_Fill_spec (t : Tab) (n : Nat) (hn : 1101 ≤ n) : (O0 n).Φ i_tables_Fill [aT t] = some (aT (fillF t)) := by
  obtain ⟨m, rfl⟩ := nat_succ (n := n) (k := 0) (by omega)
  obtain ⟨c', H', h1, h2⟩ := tables_Fill_gen t m (by omega) m (by omega)
  rw [tables_Fill_run, h1, Option.bind_some]
  simp only [xlowR, h2.low 1, Option.bind_some]
end Go.Av
