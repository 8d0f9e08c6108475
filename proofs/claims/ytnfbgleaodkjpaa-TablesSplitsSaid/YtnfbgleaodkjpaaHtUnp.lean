/-
  Columns turned into rows.
-/
import Derived.Test.YtnfbgleaodkjpaaHtBeside2
set_option linter.all false
set_option linter.unusedSimpArgs false
namespace Go.Av

/-- A row for each of the first so many columns behind the kept ones. -/
def unpR (t0 : Row) (keep : Nat) (r : Row) (q : Nat) : Tab := (List.range q).map fun j => r.take keep ++ [t0.getD (keep + j) [], r.getD (keep + j) []]
def unpT (t : Tab) (keep : Nat) : Tab := (t.drop 1).flatMap fun r => unpR (t.headD []) keep r (cols t - keep)
def unpF (t : Tab) (keep : Int) : Tab × Int :=
  if chk t ≠ 0 then ([], chk t) else if t.length = 0 then ([], 7) else if keep < 0 ∨ (cols t : Int) ≤ keep then ([], 1)
  else if 8 < keep + 2 ∨ 8 < ((t.length - 1 : Nat) : Int) * ((cols t : Int) - keep) then ([], 2) else (unpT t keep.toNat, 0)
theorem unpR_len (t0 : Row) (keep : Nat) (r : Row) (q : Nat) : (unpR t0 keep r q).length = q := by simp [unpR]
theorem unpR_snoc (t0 : Row) (keep : Nat) (r : Row) (q : Nat) : unpR t0 keep r (q + 1) = unpR t0 keep r q ++ [r.take keep ++ [t0.getD (keep + q) [], r.getD (keep + q) []]] := by
  unfold unpR; rw [List.range_succ, List.map_append]; rfl
theorem unp_flat_len (t0 : Row) (keep q : Nat) (l : Tab) : (l.flatMap fun r => unpR t0 keep r q).length = l.length * q := by
  induction l with
  | nil => simp
  | cons r l ih => rw [List.flatMap_cons, List.length_append, ih, unpR_len, List.length_cons, Nat.succ_mul]; omega
theorem unpT_len (t : Tab) (keep : Nat) : (unpT t keep).length = (t.length - 1) * (cols t - keep) := by
  unfold unpT; rw [unp_flat_len]; simp
theorem unp_flat_snoc (t0 : Row) (keep q : Nat) (t : Tab) (i : Nat) (h : i < t.length) : ((t.take (i + 1)).flatMap fun r => unpR t0 keep r q) = ((t.take i).flatMap fun r => unpR t0 keep r q) ++ unpR t0 keep t[i] q := by
  rw [List.take_succ_eq_append_getElem h, List.flatMap_append]; simp

theorem slices_Clone_Ψ {H : Hp} {c : C} {r : Row} (h : RdR H c r) (hr : r.length ≤ 1000) (n : Nat) (hn : 1 ≤ n) : (O0 n).Ψ i_slices_Clone_string_string [.one c] H = some (.one (cpC r H), cpH r H) := by
  obtain ⟨m, rfl⟩ := nat_succ (n := n) (k := 0) (by omega)
  rw [slices_Clone_string_string_runH, slices_Clone_gen c r hr H h.len h.cells]

theorem hLoad_pp (H : Hp) (d : D) : hLoad H (.d (.pp [d])) = some (.d d) := rfl
theorem hSub_rD (r : Row) (k : Nat) (hk : k ≤ r.length) : hSub (.d (.sl (rD r))) (0 : Int) (k : Int) = some (.d (.sl (rD (r.take k)))) := by
  simp only [hSub]
  rw [if_pos ⟨fun y hy => by simp only [rD, List.mem_map] at hy; obtain ⟨s, _, rfl⟩ := hy; rfl, by omega, by omega, by simp; omega⟩]
  simp [rD, List.map_take]
theorem hSub_tD1 (t : Tab) (h : 1 ≤ t.length) : hSub (.d (.sl (tD t))) (1 : Int) (t.length : Int) = some (.d (.sl (tD (t.drop 1)))) := by
  simp only [hSub]
  rw [if_pos ⟨fun y hy => by simp only [tD, List.mem_map] at hy; obtain ⟨s, _, rfl⟩ := hy; rfl, by omega, by omega, by simp⟩]
  have : ((t.length : Int)).toNat = (tD t).length := by simp
  rw [this, List.take_length]
  simp [tD, List.map_drop]

/-- A row made of a copy and two more, appended to a table. -/
theorem row_app {H : Hp} {out : C} {acc : Tab} (ho : OwT 0 H out acc) (r : Row) (a b : Txt) :
    ∃ c1 H1 c2 H2, hApp (cpH r H) (cpC r H) [sC a, sC b] = some (c1, H1) ∧ c1.hok = true ∧ OwT 0 H1 out acc ∧ hApp (H1 ++ [some ⟨[c1], true⟩]) out [c1] = some (c2, H2) ∧ OwT 0 H2 c2 (acc ++ [r ++ [a, b]]) := by
  have hx1 : Ext H.length H (cpH r H) := cp_ext r (Nat.le_refl _)
  have hown := cp_own r H
  obtain ⟨c1, H1, d1, d2, d3⟩ := hown.app hx1.1 [a, b]
  have ho1 := ho.ext (hx1.trans d3)
  obtain ⟨c2, H2, e1, e2, _⟩ := ho1.row (Nat.zero_le _) d2.rd (fun k hk => ⟨Nat.zero_le _, fun e => by
    have := d2.hid k hk
    have := ho.rd.lt k e
    omega⟩)
  exact ⟨c1, H1, c2, H2, d1, d2.rd.hok, ho1, e1, e2⟩

theorem sz_tab (a q : Nat) (h : a ≤ 64) (h2 : q ≤ 8) : (a + q + 1) * 24 ≤ 140737488355328 := by omega
theorem sz_row (a : Nat) (h : a ≤ 8) : (a + 2) * 16 ≤ 140737488355328 := by omega
/-- The rows of one row. -/
theorem tables_Unpivot_inner (Q : A × Hp → Prop) (n : Nat) (hn : 1100 ≤ n) (f : Nat) (hf : 1001 ≤ f) (k0 : Hp → List (List D) → Int → Int → C → C → Int → Int → Option (A × Hp)) (tt : List (List D)) (t0 r : Row) (nc kp : Nat) (c36 : C) (i37 i38 : Int) (B : Tab)
    (hA0 : hAddr (.d (.sl tt)) (0 : Int) = some (.d (.pp [.sl (rD t0)]))) (h0len : t0.length = nc) (hrl : r.length = nc) (hnc : nc ≤ 8) (hkp : kp < nc) (hc36 : c36.hok = true) (hB : B.length ≤ 64)
    (hk0 : ∀ H1 out, OwT 0 H1 out (B ++ unpR t0 kp r (nc - kp)) → ∃ q, k0 H1 tt kp nc out c36 i37 (IntKind.i64.wrap (i38 + 1)) = some q ∧ Q q) (H1 : Hp) (out : C) (ho : OwT 0 H1 out B) :
    ∃ q, iter (fun (x : Hp × List (List D) × Int × Int × C × C × Int × C × Int × Int × Unit) (rec : (Hp × List (List D) × Int × Int × C × C × Int × C × Int × Int × Unit) → Option (A × Hp)) => tables_Unpivot_l1 (O0 n).Φ (O0 n).Ψ f k0 (fun H29 t30 keep31 n32 out33 row34 k35 c36 i37 i38 => rec (H29, t30, keep31, n32, out33, row34, k35, c36, i37, i38, ())) x.1 x.2.1 x.2.2.1 x.2.2.2.1 x.2.2.2.2.1 x.2.2.2.2.2.1 x.2.2.2.2.2.2.1 x.2.2.2.2.2.2.2.1 x.2.2.2.2.2.2.2.2.1 x.2.2.2.2.2.2.2.2.2.1) f (H1, tt, (kp : Int), (nc : Int), out, .d (.sl (rD r)), (kp : Int), c36, i37, i38, ()) = some q ∧ Q q := by
  have hokd : ∀ d : D, C.hok (.d d) = true := fun _ => rfl
  refine iter_ex (R := A × Hp) (nc - kp) (fun q (x : Hp × List (List D) × Int × Int × C × C × Int × C × Int × Int × Unit) => ∃ H1 out, x = (H1, tt, (kp : Int), (nc : Int), out, .d (.sl (rD r)), ((kp + q : Nat) : Int), c36, i37, i38, ()) ∧ OwT 0 H1 out (B ++ unpR t0 kp r q)) _
    (fun q x rec2 hq hx hrec2 => by
      obtain ⟨H1, out, rfl, ho⟩ := hx
      have hq8 : q ≤ 8 := by omega
      have hkp8 : kp ≤ 8 := by omega
      by_cases hql : q < nc - kp
      · have hwk : IntKind.i64.wrap (((kp + q : Nat) : Int) + 1) = ((kp + (q + 1) : Nat) : Int) := by rw [wrap_i _ (by omega) (by omega)]; omega
        have hql' : ((kp + q : Nat) : Int) < (nc : Int) := by omega
        have hta : kp + q < t0.length := by omega
        have htb : kp + q < r.length := by omega
        have hAa : hAddr (.d (.sl (rD t0))) ((kp + q : Nat) : Int) = some (.d (.pp [.s t0[kp + q]])) := hAt_rD t0 (kp + q) hta
        have hAb : hAddr (.d (.sl (rD r))) ((kp + q : Nat) : Int) = some (.d (.pp [.s r[kp + q]])) := hAt_rD r (kp + q) htb
        have hg1 : t0.getD (kp + q) [] = t0[kp + q] := by simp [hta]
        have hg2 : r.getD (kp + q) [] = r[kp + q] := by simp [htb]
        generalize t0[kp + q] = sa at hAa hg1
        generalize r[kp + q] = sb at hAb hg2
        have hNr : hLen (.d (.sl (rD r))) = some nc := by simp [hLen, hrl]
        have hcl := slices_Clone_Ψ (H := H1) (RdR.data H1 (r.take kp)) (by simp; omega) n (by omega)
        obtain ⟨c1, H2, c2, H3, e1, e2, e3, e4, e5⟩ := row_app ho (r.take kp) sa sb
        have hcs : hCells (cpH (r.take kp) H1) (.full [[D.s sa], [D.s sb]]) = some [sC sa, sC sb] := hCells_full (cpH (r.take kp) H1) [sa, sb]
        have hln := (cp_own (r.take kp) H1).rd.len
        have hs2 : ((B ++ unpR t0 kp r q).length + [c1].length) * 24 ≤ 140737488355328 := by rw [List.length_append, unpR_len, List.length_singleton]; exact sz_tab _ _ hB hq8
        have hs1 : ((r.take kp).length + [sC sa, sC sb].length) * 16 ≤ 140737488355328 := sz_row _ (by rw [List.length_take]; exact Nat.le_trans (Nat.min_le_left ..) hkp8)
        simp only [tables_Unpivot_l1, xite_decide, hql', if_true, hNr, Option.bind_some, hSub_rD r kp (by omega), hA0, hLoad_pp, hAa, xS_s, hAb, hokd, xif_tt, hcl, xone_one, hln, hcs, hs1, decide_true, e1, oneCs_one e2, hPush, e3.rd.len, hCells_box, hs2, e4, e5.rd.hok, hwk, hc36]
        refine hrec2 _ (by omega) ⟨H3, c2, rfl, ?_⟩
        rw [unpR_snoc, hg1, hg2, ← List.append_assoc]
        exact e5
      · have hql' : ¬ ((kp + q : Nat) : Int) < (nc : Int) := by omega
        obtain rfl : q = nc - kp := by omega
        simp only [tables_Unpivot_l1, xite_decide, hql', if_false, ho.rd.hok, hokd, xif_tt, hc36]
        exact hk0 H1 out ho) f 0 (H1, tt, (kp : Int), (nc : Int), out, .d (.sl (rD r)), (kp : Int), c36, i37, i38, ()) (by omega) (by omega) ⟨H1, out, rfl, by rw [show unpR t0 kp r 0 = [] from rfl, List.append_nil]; exact ho⟩
theorem ref08_Unpivot_inner (Q : A × Hp → Prop) (n : Nat) (hn : 1100 ≤ n) (f : Nat) (hf : 1001 ≤ f) (k0 : Hp → List (List D) → Int → C → Int → Option (A × Hp)) (tt : List (List D)) (t0 r : Row) (nc kp : Nat) (i23 : Int) (B : Tab)
    (hA0 : hAddr (.d (.sl tt)) (0 : Int) = some (.d (.pp [.sl (rD t0)]))) (hA : hAddr (.d (.sl tt)) i23 = some (.d (.pp [.sl (rD r)]))) (h0len : t0.length = nc) (hrl : r.length = nc) (hnc : nc ≤ 8) (hkp : kp < nc) (hB : B.length ≤ 64)
    (hk0 : ∀ H1 out, OwT 0 H1 out (B ++ unpR t0 kp r (nc - kp)) → ∃ q, k0 H1 tt kp out (IntKind.i64.wrap (i23 + 1)) = some q ∧ Q q) (H1 : Hp) (out : C) (ho : OwT 0 H1 out B) :
    ∃ q, iter (fun (x : Hp × List (List D) × Int × C × Int × Int × Unit) (rec : (Hp × List (List D) × Int × C × Int × Int × Unit) → Option (A × Hp)) => ref08_Unpivot_l1 (O0 n).Φ (O0 n).Ψ f k0 (fun H19 t20 keep21 out22 i23 k24 => rec (H19, t20, keep21, out22, i23, k24, ())) x.1 x.2.1 x.2.2.1 x.2.2.2.1 x.2.2.2.2.1 x.2.2.2.2.2.1) f (H1, tt, (kp : Int), out, i23, (kp : Int), ()) = some q ∧ Q q := by
  have hokd : ∀ d : D, C.hok (.d d) = true := fun _ => rfl
  refine iter_ex (R := A × Hp) (nc - kp) (fun q (x : Hp × List (List D) × Int × C × Int × Int × Unit) => ∃ H1 out, x = (H1, tt, (kp : Int), out, i23, ((kp + q : Nat) : Int), ()) ∧ OwT 0 H1 out (B ++ unpR t0 kp r q)) _
    (fun q x rec2 hq hx hrec2 => by
      obtain ⟨H1, out, rfl, ho⟩ := hx
      have hNr : hLen (.d (.sl (rD r))) = some nc := by simp [hLen, hrl]
      have hq8 : q ≤ 8 := by omega
      have hkp8 : kp ≤ 8 := by omega
      by_cases hql : q < nc - kp
      · have hwk : IntKind.i64.wrap (((kp + q : Nat) : Int) + 1) = ((kp + (q + 1) : Nat) : Int) := by rw [wrap_i _ (by omega) (by omega)]; omega
        have hql' : ((kp + q : Nat) : Int) < ((nc : Nat) : Int) := by omega
        have hta : kp + q < t0.length := by omega
        have htb : kp + q < r.length := by omega
        have hAa : hAddr (.d (.sl (rD t0))) ((kp + q : Nat) : Int) = some (.d (.pp [.s t0[kp + q]])) := hAt_rD t0 (kp + q) hta
        have hAb : hAddr (.d (.sl (rD r))) ((kp + q : Nat) : Int) = some (.d (.pp [.s r[kp + q]])) := hAt_rD r (kp + q) htb
        have hg1 : t0.getD (kp + q) [] = t0[kp + q] := by simp [hta]
        have hg2 : r.getD (kp + q) [] = r[kp + q] := by simp [htb]
        generalize t0[kp + q] = sa at hAa hg1
        generalize r[kp + q] = sb at hAb hg2
        have hcl := ref08_list_Ψ (H := H1) (RdR.data H1 (r.take kp)) (by simp; omega) n (by omega)
        obtain ⟨c1, H2, c2, H3, e1, e2, e3, e4, e5⟩ := row_app ho (r.take kp) sa sb
        have hcs : hCells (cpH (r.take kp) H1) (.full [[D.s sa], [D.s sb]]) = some [sC sa, sC sb] := hCells_full (cpH (r.take kp) H1) [sa, sb]
        have hln := (cp_own (r.take kp) H1).rd.len
        have hs2 : ((B ++ unpR t0 kp r q).length + [c1].length) * 24 ≤ 140737488355328 := by rw [List.length_append, unpR_len, List.length_singleton]; exact sz_tab _ _ hB hq8
        have hs1 : ((r.take kp).length + [sC sa, sC sb].length) * 16 ≤ 140737488355328 := sz_row _ (by rw [List.length_take]; exact Nat.le_trans (Nat.min_le_left ..) hkp8)
        simp only [ref08_Unpivot_l1, hA, hLoad_pp, xite_decide, hql', if_true, hNr, Option.bind_some, hSub_rD r kp (by omega), hA0, hAa, xS_s, hAb, hokd, xif_tt, hcl, xone_one, hln, hcs, hs1, decide_true, e1, oneCs_one e2, hPush, e3.rd.len, hCells_box, hs2, e4, e5.rd.hok, hwk]
        refine hrec2 _ (by omega) ⟨H3, c2, rfl, ?_⟩
        rw [unpR_snoc, hg1, hg2, ← List.append_assoc]
        exact e5
      · have hql' : ¬ ((kp + q : Nat) : Int) < ((nc : Nat) : Int) := by omega
        obtain rfl : q = nc - kp := by omega
        simp only [ref08_Unpivot_l1, hA, hLoad_pp, hNr, Option.bind_some, xite_decide, hql', if_false, ho.rd.hok, xif_tt]
        exact hk0 H1 out ho) f 0 (H1, tt, (kp : Int), out, i23, (kp : Int), ()) (by omega) (by omega) ⟨H1, out, rfl, by rw [show unpR t0 kp r 0 = [] from rfl, List.append_nil]; exact ho⟩

theorem tables_Unpivot_gen (t : Tab) (keep : Int) (hkb : -9223372036854775808 ≤ keep ∧ keep ≤ 9223372036854775807) (n : Nat) (hn : 1100 ≤ n) (f : Nat) (hf : 1001 ≤ f) :
    ∃ c H', tables_Unpivot (O0 n).Φ (O0 n).Ψ f (tD t) keep [] = some (.tup [.one c, aI (unpF t keep).2], H') ∧ RdT H' c (unpF t keep).1 := by
  simp only [tables_Unpivot, tables_Check_spec t n (by omega), Option.bind_some, xAD_d, xDI_v, xite_decide, xite_not, unpF, length_tD]
  by_cases h0 : chk t = 0
  · have la := chk_len h0
    have hrows := chk_row h0
    have hcols := chk_cols h0
    simp only [h0, if_true, ne_eq, not_true, if_false]
    by_cases hl0 : t.length = 0
    · have hl0' : (t.length : Int) = 0 := by omega
      simp only [hl0, hl0', if_true]
      exact ⟨_, _, rfl, .inr (.inl ⟨rfl, rfl⟩)⟩
    have hl0' : ¬ (t.length : Int) = 0 := by omega
    simp only [hl0, hl0', if_false, tables_columns_spec t n (by omega), Option.bind_some, xAD_d, xDI_v]
    by_cases hk0 : keep < 0
    · simp only [hk0, true_or, if_true]
      exact ⟨_, _, rfl, .inr (.inl ⟨rfl, rfl⟩)⟩
    by_cases hkc : (cols t : Int) ≤ keep
    · simp only [hk0, hkc, or_true, if_true, if_false]
      exact ⟨_, _, rfl, .inr (.inl ⟨rfl, rfl⟩)⟩
    obtain ⟨kp, rfl⟩ : ∃ kp : Nat, keep = kp := ⟨keep.toNat, by omega⟩
    have hw1 : IntKind.i64.wrap ((kp : Int) + 2) = (kp : Int) + 2 := wrap_i _ (by omega) (by omega)
    have hw2 : IntKind.i64.wrap ((t.length : Int) - 1) = ((t.length - 1 : Nat) : Int) := by rw [wrap_i _ (by omega) (by omega)]; omega
    have hw3 : IntKind.i64.wrap ((cols t - kp : Nat) : Int) = ((cols t - kp : Nat) : Int) := wrap_i _ (by omega) (by omega)
    have hmul : (t.length - 1) * (cols t - kp) ≤ 8 * 8 := Nat.mul_le_mul (by omega) (by omega)
    have hsubc : (cols t : Int) - (kp : Int) = ((cols t - kp : Nat) : Int) := by omega
    have hw4 : IntKind.i64.wrap (((t.length - 1 : Nat) : Int) * ((cols t - kp : Nat) : Int)) = ((t.length - 1 : Nat) : Int) * ((cols t - kp : Nat) : Int) := by
      rw [wrap_i] <;> rw [← Int.natCast_mul] <;> omega
    simp only [hk0, hkc, or_self, if_false, hw1, hw2, hw3, hw4, hsubc]
    by_cases hs1 : 8 < (kp : Int) + 2
    · simp only [hs1, true_or, if_true]
      exact ⟨_, _, rfl, .inr (.inl ⟨rfl, rfl⟩)⟩
    by_cases hs2 : 8 < ((t.length - 1 : Nat) : Int) * ((cols t - kp : Nat) : Int)
    · simp only [hs1, hs2, or_true, if_true, if_false]
      exact ⟨_, _, rfl, .inr (.inl ⟨rfl, rfl⟩)⟩
    have hd1 : hLen (.d (.sl (tD (t.drop 1)))) = some (t.length - 1) := by simp [hLen]
    have hokd : ∀ d : D, C.hok (.d d) = true := fun _ => rfl
    have hpos : 0 < t.length := by omega
    have hA0 : hAddr (.d (.sl (tD t))) (0 : Int) = some (.d (.pp [.sl (rD t[0])])) := hAt_tD t 0 hpos
    have hh : t.headD [] = t[0] := head_get t hpos
    have h0len : t[0].length = cols t := (hrows _ (List.getElem_mem hpos)).2.2.1
    simp only [hs1, hs2, or_self, if_false, hSub_tD1 t (by omega), hd1, Option.bind_some, hokd, xif_tt, Int.toNat_natCast, unpT, hh]
    have key := iter_ex (R := A × Hp) (t.length - 1) (fun i (x : Hp × List (List D) × Int × Int × C × C × Int × Int × Unit) => ∃ H1 out, x = (H1, tD t, (kp : Int), (cols t : Int), out, .d (.sl (tD (t.drop 1))), ((t.length - 1 : Nat) : Int), (i : Int), ()) ∧ OwT 0 H1 out (((t.drop 1).take i).flatMap fun r => unpR t[0] kp r (cols t - kp))) (fun p => ∃ c' H', p = (.tup [.one c', aI 0], H') ∧ RdT H' c' ((t.drop 1).flatMap fun r => unpR t[0] kp r (cols t - kp)))
      (F := fun (x : Hp × List (List D) × Int × Int × C × C × Int × Int × Unit) (rec : (Hp × List (List D) × Int × Int × C × C × Int × Int × Unit) → Option (A × Hp)) => tables_Unpivot_l0 (O0 n).Φ (O0 n).Ψ f (fun H19 t20 keep21 n22 out23 c24 i25 i26 => rec (H19, t20, keep21, n22, out23, c24, i25, i26, ())) x.1 x.2.1 x.2.2.1 x.2.2.2.1 x.2.2.2.2.1 x.2.2.2.2.2.1 x.2.2.2.2.2.2.1 x.2.2.2.2.2.2.2.1)
      (fun i x rec hi hx hrec => by
        obtain ⟨H1, out, rfl, ho⟩ := hx
        by_cases hlt : i < t.length - 1
        · have hw := wrap_i (i + 1) (by omega) (by omega)
          have hlt' : (i : Int) < ((t.length - 1 : Nat) : Int) := by omega
          have hil : i < (t.drop 1).length := by simp; omega
          have hA : hAddr (.d (.sl (tD (t.drop 1)))) (i : Int) = some (.d (.pp [.sl (rD (t.drop 1)[i])])) := hAt_tD (t.drop 1) i hil
          have hrl := (hrows _ (List.mem_of_mem_drop (List.getElem_mem hil))).2.2.1
          generalize hr : (t.drop 1)[i] = r at hA hrl
          have hbase : (((t.drop 1).take i).flatMap fun r => unpR t[0] kp r (cols t - kp)).length ≤ 64 := by
            rw [unp_flat_len]
            have h1 : ((t.drop 1).take i).length ≤ 8 := by simp; omega
            have := Nat.mul_le_mul h1 (show cols t - kp ≤ 8 by omega)
            omega
          simp only [tables_Unpivot_l0, xite_decide, hlt', if_true, hA, hLoad_pp, Option.bind_some, ho.rd.hok, hokd, xif_tt]
          refine tables_Unpivot_inner _ n hn f hf _ (tD t) t[0] r (cols t) kp (.d (.sl (tD (t.drop 1)))) _ _ _ hA0 h0len hrl hcols (by omega) rfl hbase (fun H1 out ho => ?_) H1 out ho
          rw [hw]
          refine hrec _ (by omega) ⟨H1, out, rfl, ?_⟩
          rw [unp_flat_snoc _ _ _ _ i hil, hr]
          exact ho
        · have hlt' : ¬ (i : Int) < ((t.length - 1 : Nat) : Int) := by omega
          have hok : xokR (.tup [.one out, aI 0]) = true := by have := ho.rd.hok; simp only [xokR, List.all_cons, List.all_nil, xokC, this]; rfl
          rw [List.take_of_length_le (by simp; omega)] at ho
          simp only [tables_Unpivot_l0, xite_decide, hlt', if_false, hok, xif_tt]
          exact ⟨_, rfl, out, H1, rfl, ho.rd⟩) f 0 ([], tD t, (kp : Int), (cols t : Int), .full [], .d (.sl (tD (t.drop 1))), ((t.length - 1 : Nat) : Int), (0 : Int), ()) (by omega) (by omega) ⟨[], .full [], rfl, .inl ⟨rfl, rfl⟩⟩
    obtain ⟨_, hr, c', H', rfl, h1⟩ := key
    exact ⟨c', H', hr, h1⟩
  · simp only [h0, if_false, ne_eq, not_false_eq_true, if_true]
    exact ⟨_, _, rfl, .inr (.inl ⟨rfl, rfl⟩)⟩
theorem tables_Unpivot_spec (t : Tab) (keep : Int) (hkb : -9223372036854775808 ≤ keep ∧ keep ≤ 9223372036854775807) (n : Nat) (hn : 1101 ≤ n) : (O0 n).Φ i_tables_Unpivot [aT t, aI keep] = some (two (aT (unpF t keep).1) (aI (unpF t keep).2)) := by
  obtain ⟨m, rfl⟩ := nat_succ (n := n) (k := 0) (by omega)
  obtain ⟨c', H', h1, h2⟩ := tables_Unpivot_gen t keep hkb m (by omega) m (by omega)
  rw [tables_Unpivot_run, h1, Option.bind_some]
  simp only [xlowR, xlowRs, h2.low 1, Option.bind_some]
  rfl

theorem ref08_Unpivot_gen (t : Tab) (keep : Int) (hkb : -9223372036854775808 ≤ keep ∧ keep ≤ 9223372036854775807) (n : Nat) (hn : 1100 ≤ n) (f : Nat) (hf : 1001 ≤ f) :
    ∃ c H', ref08_Unpivot (O0 n).Φ (O0 n).Ψ f (tD t) keep [] = some (.tup [.one c, aI (unpF t keep).2], H') ∧ RdT H' c (unpF t keep).1 := by
  simp only [ref08_Unpivot, ref08_Check_spec t n (by omega), Option.bind_some, xAD_d, xDI_v, xite_decide, xite_not, unpF, length_tD]
  by_cases h0 : chk t = 0
  · have la := chk_len h0
    have hrows := chk_row h0
    have hcols := chk_cols h0
    simp only [h0, if_true, ne_eq, not_true, if_false]
    by_cases hl0 : t.length = 0
    · have hl0' : (t.length : Int) = 0 := by omega
      simp only [hl0, hl0', if_true]
      exact ⟨_, _, rfl, .inr (.inl ⟨rfl, rfl⟩)⟩
    have hl0' : ¬ (t.length : Int) = 0 := by omega
    simp only [hl0, hl0', if_false, ref08_Columns_spec t n (by omega), Option.bind_some, xAD_d, xDI_v]
    by_cases hk0 : keep < 0
    · simp only [hk0, true_or, if_true]
      exact ⟨_, _, rfl, .inr (.inl ⟨rfl, rfl⟩)⟩
    by_cases hkc : (cols t : Int) ≤ keep
    · simp only [hk0, hkc, or_true, if_true, if_false]
      exact ⟨_, _, rfl, .inr (.inl ⟨rfl, rfl⟩)⟩
    obtain ⟨kp, rfl⟩ : ∃ kp : Nat, keep = kp := ⟨keep.toNat, by omega⟩
    have hw1 : IntKind.i64.wrap ((kp : Int) + 2) = (kp : Int) + 2 := wrap_i _ (by omega) (by omega)
    have hsubc : (cols t : Int) - (kp : Int) = ((cols t - kp : Nat) : Int) := by omega
    have hokd : ∀ d : D, C.hok (.d d) = true := fun _ => rfl
    have hpos : 0 < t.length := by omega
    have hA0 : hAddr (.d (.sl (tD t))) (0 : Int) = some (.d (.pp [.sl (rD t[0])])) := hAt_tD t 0 hpos
    have hh : t.headD [] = t[0] := head_get t hpos
    have h0len : t[0].length = cols t := (hrows _ (List.getElem_mem hpos)).2.2.1
    simp only [hk0, hkc, or_self, if_false, hsubc, Int.toNat_natCast]
    have hprod : ((t.length - 1 : Nat) : Int) * ((cols t - kp : Nat) : Int) = (((t.length - 1) * (cols t - kp) : Nat) : Int) := by rw [Int.natCast_mul]
    have key := iter_ex (R := A × Hp) t.length (fun i (x : Hp × List (List D) × Int × C × Int × Unit) => ∃ H1 out, x = (H1, tD t, (kp : Int), out, (i : Int), ()) ∧ 1 ≤ i ∧ OwT 0 H1 out (((t.drop 1).take (i - 1)).flatMap fun r => unpR t[0] kp r (cols t - kp))) (fun p => ∃ c' H', p = (.tup [.one c', aI (if 8 < (kp : Int) + 2 ∨ 8 < ((t.length - 1 : Nat) : Int) * ((cols t - kp : Nat) : Int) then ([], 2) else (unpT t kp, 0) : Tab × Int).2], H') ∧ RdT H' c' (if 8 < (kp : Int) + 2 ∨ 8 < ((t.length - 1 : Nat) : Int) * ((cols t - kp : Nat) : Int) then ([], 2) else (unpT t kp, 0) : Tab × Int).1)
      (F := fun (x : Hp × List (List D) × Int × C × Int × Unit) (rec : (Hp × List (List D) × Int × C × Int × Unit) → Option (A × Hp)) => ref08_Unpivot_l0 (O0 n).Φ (O0 n).Ψ f (fun H14 t15 keep16 out17 i18 => rec (H14, t15, keep16, out17, i18, ())) x.1 x.2.1 x.2.2.1 x.2.2.2.1 x.2.2.2.2.1)
      (fun i x rec hi hx hrec => by
        obtain ⟨H1, out, rfl, hi1, ho⟩ := hx
        by_cases hlt : i < t.length
        · have hw := wrap_i (i + 1) (by omega) (by omega)
          have hlt' : (i : Int) < (t.length : Nat) := by omega
          have hil : i - 1 < (t.drop 1).length := by simp; omega
          have hA : hAddr (.d (.sl (tD t))) (i : Int) = some (.d (.pp [.sl (rD t[i])])) := hAt_tD t i hlt
          have hrl := (hrows _ (List.getElem_mem hlt)).2.2.1
          have hdr : (t.drop 1)[i - 1] = t[i] := by rw [List.getElem_drop]; congr 1; omega
          generalize hr : t[i] = r at hA hrl hdr
          have hbase : (((t.drop 1).take (i - 1)).flatMap fun r => unpR t[0] kp r (cols t - kp)).length ≤ 64 := by
            rw [unp_flat_len]
            have h1 : ((t.drop 1).take (i - 1)).length ≤ 8 := by simp; omega
            have := Nat.mul_le_mul h1 (show cols t - kp ≤ 8 by omega)
            omega
          simp only [ref08_Unpivot_l0, length_tD, xite_decide, hlt', if_true, ho.rd.hok, xif_tt]
          refine ref08_Unpivot_inner _ n hn f hf _ (tD t) t[0] r (cols t) kp _ _ hA0 hA h0len hrl hcols (by omega) hbase (fun H1 out ho => ?_) H1 out ho
          rw [hw]
          refine hrec _ (by omega) ⟨H1, out, rfl, by omega, ?_⟩
          have := unp_flat_snoc t[0] kp (cols t - kp) (t.drop 1) (i - 1) hil
          rw [show i - 1 + 1 = i + 1 - 1 by omega] at this
          rw [this, hdr]
          exact ho
        · have hlt' : ¬ (i : Int) < (t.length : Nat) := by omega
          have hok : xokR (.tup [.one out, aI 0]) = true := by have := ho.rd.hok; simp only [xokR, List.all_cons, List.all_nil, xokC, this]; rfl
          have hok2 : xokR (.tup [.one (.full []), aI 2]) = true := rfl
          rw [List.take_of_length_le (by simp; omega), ← hh] at ho
          have hol : hLen out = some ((t.length - 1) * (cols t - kp)) := by rw [← unpT_len]; exact ho.rd.len
          simp only [ref08_Unpivot_l0, length_tD, xite_decide, hlt', if_false, hw1, hol, Option.bind_some, hprod, hok, hok2, xif_tt]
          by_cases hs1 : 8 < (kp : Int) + 2
          · simp only [hs1, true_or, if_true]
            exact ⟨_, rfl, _, H1, rfl, .inr (.inl ⟨rfl, rfl⟩)⟩
          · by_cases hs2 : 8 < (((t.length - 1) * (cols t - kp) : Nat) : Int)
            · simp only [hs1, hs2, or_true, if_true, if_false]
              exact ⟨_, rfl, _, H1, rfl, .inr (.inl ⟨rfl, rfl⟩)⟩
            · simp only [hs1, hs2, or_self, if_false]
              exact ⟨_, rfl, out, H1, rfl, ho.rd⟩) f 1 ([], tD t, (kp : Int), .full [], (1 : Int), ()) (by omega) (by omega) ⟨[], .full [], rfl, Nat.le_refl _, .inl ⟨rfl, rfl⟩⟩
    obtain ⟨_, hr, c', H', rfl, h1⟩ := key
    exact ⟨c', H', hr, h1⟩
  · simp only [h0, if_false, ne_eq, not_false_eq_true, if_true]
    exact ⟨_, _, rfl, .inr (.inl ⟨rfl, rfl⟩)⟩
theorem ref08_Unpivot_spec (t : Tab) (keep : Int) (hkb : -9223372036854775808 ≤ keep ∧ keep ≤ 9223372036854775807) (n : Nat) (hn : 1101 ≤ n) : (O0 n).Φ i_ref08_Unpivot [aT t, aI keep] = some (two (aT (unpF t keep).1) (aI (unpF t keep).2)) := by
  obtain ⟨m, rfl⟩ := nat_succ (n := n) (k := 0) (by omega)
  obtain ⟨c', H', h1, h2⟩ := ref08_Unpivot_gen t keep hkb m (by omega) m (by omega)
  rw [ref08_Unpivot_run, h1, Option.bind_some]
  simp only [xlowR, xlowRs, h2.low 1, Option.bind_some]
  rfl
end Go.Av
