/-
  The specification's copies, columns and transposes.
-/
import Derived.Test.YtnfbgleaodkjpaaHtHeap
set_option linter.all false
set_option linter.unusedSimpArgs false
namespace Go.Av

@[simp] theorem xS_s (l : Txt) : xS (.one (.d (.s l))) = some l := rfl

def colF (t : Tab) (k : Nat) : Row := t.map fun r => r.getD k []
theorem colF_snoc (t : Tab) (k i : Nat) (h : i < t.length) : colF (t.take (i + 1)) k = colF (t.take i) k ++ [t[i].getD k []] := by
  unfold colF; rw [List.take_succ_eq_append_getElem h, List.map_append]; rfl

theorem ref08_list_Ψ {H : Hp} {c : C} {r : Row} (h : RdR H c r) (hr : r.length ≤ 1000) (n : Nat) (hn : 1 ≤ n) : (O0 n).Ψ i_ref08_list [.one c] H = some (.one (cpC r H), cpH r H) := by
  obtain ⟨m, rfl⟩ := nat_succ (n := n) (k := 0) (by omega)
  rw [ref08_list_runH, ref08_list_gen c r hr H h.cells]

theorem ref08_column_gen {H : Hp} {c : C} {t : Tab} (h : RdT H c t) (ht : t.length ≤ 1000) (k : Nat) (hk : ∀ r ∈ t, k < r.length) (Φ : Phi) (Ψ : Psi) (f : Nat) (hf : 1001 ≤ f) :
    ∃ c' H', ref08_column Φ Ψ f c (k : Int) H = some (.one c', H') ∧ OwR H.length H' c' (colF t k) ∧ Ext H.length H H' := by
  rw [ref08_column, h.hok, xif_tt]
  have key := iter_ex (R := A × Hp) t.length (fun i (x : Hp × C × Int × C × Int × Unit) => ∃ H1 out, x = (H1, c, (k : Int), out, (i : Int), ()) ∧ OwR H.length H1 out (colF (t.take i) k) ∧ Ext H.length H H1) (fun p => ∃ c' H', p = (.one c', H') ∧ OwR H.length H' c' (colF t k) ∧ Ext H.length H H')
    (F := fun (x : Hp × C × Int × C × Int × Unit) (rec : (Hp × C × Int × C × Int × Unit) → Option (A × Hp)) => ref08_column_l0 Φ Ψ f (fun H8 t9 k10 out11 i12 => rec (H8, t9, k10, out11, i12, ())) x.1 x.2.1 x.2.2.1 x.2.2.2.1 x.2.2.2.2.1)
    (fun i x rec hi hx hrec => by
      obtain ⟨H1, out, rfl, ho, he⟩ := hx
      have h1 := h.ext he
      by_cases hlt : i < t.length
      · have hw := wrap_i (i + 1) (by omega) (by omega)
        have hlt' : (i : Int) < (t.length : Nat) := by omega
        obtain ⟨p, rc, a1, a2, a3⟩ := h1.at i hlt
        have hkr := hk _ (List.getElem_mem hlt)
        obtain ⟨p2, b1, b2⟩ := a3.at k hkr
        obtain ⟨c2, H2, d1, d2, d3⟩ := ho.app he.1 [t[i][k]]
        have hlen : (colF (t.take i) k).length = i := by simp [colF]; omega
        have hsz : ((colF (t.take i) k).length + ([t[i][k]].map sC).length) * 16 ≤ 140737488355328 := by rw [hlen]; simp; omega
        have hgd : t[i].getD k [] = t[i][k] := by simp [hkr]
        have hcl := hCells_full H1 [t[i][k]]
        rw [show rD [t[i][k]] = [[D.s t[i][k]]] from rfl] at hcl
        simp only [ref08_column_l0, h1.len, Option.bind_some, xite_decide, hlt', if_true, a1, a2, b1, b2, xS_s, ho.rd.len, hcl, hsz, decide_true, xif_tt, d1, h1.hok, d2.rd.hok, hw]
        exact hrec _ hlt ⟨H2, c2, rfl, by rw [colF_snoc t k i hlt, hgd]; exact d2, he.trans d3⟩
      · have hlt' : ¬ (i : Int) < (t.length : Nat) := by omega
        have hok : xokR (.one out) = true := ho.rd.hok
        rw [List.take_of_length_le (by omega)] at ho
        simp only [ref08_column_l0, h1.len, Option.bind_some, xite_decide, hlt', if_false, hok, xif_tt]
        exact ⟨_, rfl, out, H1, rfl, ho, he⟩) f 0 (H, c, (k : Int), .full [], (0 : Int), ()) (by omega) (by omega) ⟨H, .full [], rfl, .inl ⟨rfl, rfl⟩, .refl (Nat.le_refl _)⟩
  obtain ⟨_, hr, c', H', rfl, h1, h2⟩ := key
  exact ⟨c', H', hr, h1, h2⟩
theorem ref08_column_Ψ {H : Hp} {c : C} {t : Tab} (h : RdT H c t) (ht : t.length ≤ 1000) (k : Nat) (hk : ∀ r ∈ t, k < r.length) (n : Nat) (hn : 1002 ≤ n) :
    ∃ c' H', (O0 n).Ψ i_ref08_column [.one c, aI k] H = some (.one c', H') ∧ OwR H.length H' c' (colF t k) ∧ Ext H.length H H' := by
  obtain ⟨m, rfl⟩ := nat_succ (n := n) (k := 0) (by omega)
  obtain ⟨c', H', h1, h2, h3⟩ := ref08_column_gen h ht k hk (O0 m).Φ (O0 m).Ψ m (by omega)
  exact ⟨c', H', by rw [ref08_column_runH]; exact h1, h2, h3⟩
theorem ref08_column_spec (t : Tab) (ht : t.length ≤ 1000) (k : Nat) (hk : ∀ r ∈ t, k < r.length) (n : Nat) (hn : 1002 ≤ n) : (O0 n).Φ i_ref08_column [aT t, aI k] = some (aR (colF t k)) := by
  obtain ⟨m, rfl⟩ := nat_succ (n := n) (k := 0) (by omega)
  obtain ⟨c', H', h1, h2, h3⟩ := ref08_column_gen (RdT.data [] t) ht k hk (O0 m).Φ (O0 m).Ψ m (by omega)
  rw [ref08_column_run, h1, Option.bind_some]
  simp only [xlowR, h2.rd.low 2, Option.bind_some]

theorem RdT.lt {H : Hp} {c : C} {t : Tab} (h : RdT H c t) (k : Nat) (hk : c.hid = some k) : k < H.length := by
  rcases h with rfl | ⟨rfl, rfl⟩ | ⟨k', off, o, rfl, h2, _⟩
  · cases hk
  · cases hk
  · simp only [C.hid, Option.some.injEq] at hk; subst hk; exact hGet_lt h2
theorem oneCs_one {c : C} (h : c.hok = true) : oneCs [.one c] = some [c] := by simp [oneCs, h]
theorem hCells_box (H : Hp) (c : C) : hCells (H ++ [some ⟨[c], true⟩]) (.hs H.length 0 1) = some [c] := by
  simp only [hCells, hGet_push, Option.bind_some]; rfl
/-- A row appended to a table. -/
theorem OwT.row {n : Nat} {H : Hp} {c : C} {t : Tab} (h : OwT n H c t) (hn : n ≤ H.length) {rc : C} {r : Row} (hr : RdR H rc r) (hid : ∀ k, rc.hid = some k → c.hid ≠ some k) :
    ∃ c' H', hApp (H ++ [some ⟨[rc], true⟩]) c [rc] = some (c', H') ∧ OwT n H' c' (t ++ [r]) ∧ Ext n H H' := by
  have hx : Ext H.length H (H ++ [some ⟨[rc], true⟩]) := .push (Nat.le_refl _) _
  obtain ⟨c', H', h1, h2, h3⟩ := (h.ext hx).app (by simp; omega) [rc] [r] rfl (fun i q hq => by
    cases i with
    | zero => simp at hq; subst hq; exact ⟨rc, rfl, hr.ext hx hr.lt, hid⟩
    | succ i => simp at hq)
  exact ⟨c', H', h1, h2, (hx.le hn).trans h3⟩

/-! Copies of a table. -/
theorem ref08_table_gen {H : Hp} {c : C} {t : Tab} (h : RdT H c t) (ht : t.length ≤ 1000) (hr : ∀ r ∈ t, r.length ≤ 1000) (n : Nat) (hn : 1 ≤ n) (f : Nat) (hf : 1001 ≤ f) :
    ∃ c' H', ref08_table (O0 n).Φ (O0 n).Ψ f c H = some (.one c', H') ∧ OwT H.length H' c' t ∧ Ext H.length H H' := by
  rw [ref08_table, h.hok, xif_tt]
  have key := iter_ex (R := A × Hp) t.length (fun i (x : Hp × C × C × Int × Unit) => ∃ H1 out, x = (H1, c, out, (i : Int), ()) ∧ OwT H.length H1 out (t.take i) ∧ Ext H.length H H1) (fun p => ∃ c' H', p = (.one c', H') ∧ OwT H.length H' c' t ∧ Ext H.length H H')
    (F := fun (x : Hp × C × C × Int × Unit) (rec : (Hp × C × C × Int × Unit) → Option (A × Hp)) => ref08_table_l0 (O0 n).Φ (O0 n).Ψ f (fun a b c d => rec (a, b, c, d, ())) x.1 x.2.1 x.2.2.1 x.2.2.2.1)
    (fun i x rec hi hx hrec => by
      obtain ⟨H1, out, rfl, ho, he⟩ := hx
      have h1 := h.ext he
      by_cases hlt : i < t.length
      · have hw := wrap_i (i + 1) (by omega) (by omega)
        have hlt' : (i : Int) < (t.length : Nat) := by omega
        obtain ⟨p, rc, a1, a2, a3⟩ := h1.at i hlt
        have hl := ref08_list_Ψ a3 (hr _ (List.getElem_mem hlt)) n hn
        have hx1 : Ext H1.length H1 (cpH t[i] H1) := cp_ext t[i] (Nat.le_refl _)
        have hown := cp_own t[i] H1
        have ho1 := ho.ext hx1
        obtain ⟨c2, H2, d1, d2, d3⟩ := ho1.row (Nat.le_trans he.1 hx1.1) hown.rd (fun k hk e => by
          have := hown.hid k hk
          have := ho.rd.lt k e
          omega)
        have hlen : (t.take i).length = i := by simp; omega
        have hsz : ((t.take i).length + [cpC t[i] H1].length) * 24 ≤ 140737488355328 := by rw [hlen]; simp; omega
        simp only [ref08_table_l0, h1.len, Option.bind_some, xite_decide, hlt', if_true, a1, a2, a3.hok, xif_tt, hl, xone_one, oneCs_one (cp_hok t[i] H1), hPush, ho1.rd.len, hCells_box, hsz, decide_true, d1, h1.hok, d2.rd.hok, hw]
        exact hrec _ hlt ⟨H2, c2, rfl, by rw [List.take_succ_eq_append_getElem hlt]; exact d2, he.trans ((hx1.le he.1).trans d3)⟩
      · have hlt' : ¬ (i : Int) < (t.length : Nat) := by omega
        have hok : xokR (.one out) = true := ho.rd.hok
        rw [List.take_of_length_le (by omega)] at ho
        simp only [ref08_table_l0, h1.len, Option.bind_some, xite_decide, hlt', if_false, hok, xif_tt]
        exact ⟨_, rfl, out, H1, rfl, ho, he⟩) f 0 (H, c, .full [], (0 : Int), ()) (by omega) (by omega) ⟨H, .full [], rfl, .inl ⟨rfl, rfl⟩, .refl (Nat.le_refl _)⟩
  obtain ⟨_, hr, c', H', rfl, h1, h2⟩ := key
  exact ⟨c', H', hr, h1, h2⟩
theorem ref08_table_Ψ {H : Hp} {c : C} {t : Tab} (h : RdT H c t) (ht : t.length ≤ 1000) (hr : ∀ r ∈ t, r.length ≤ 1000) (n : Nat) (hn : 1002 ≤ n) :
    ∃ c' H', (O0 n).Ψ i_ref08_table [.one c] H = some (.one c', H') ∧ OwT H.length H' c' t ∧ Ext H.length H H' := by
  obtain ⟨m, rfl⟩ := nat_succ (n := n) (k := 0) (by omega)
  obtain ⟨c', H', h1, h2, h3⟩ := ref08_table_gen h ht hr m (by omega) m (by omega)
  exact ⟨c', H', by rw [ref08_table_runH]; exact h1, h2, h3⟩

/-! The transpose. -/
def trF (t : Tab) : Tab := if chk t ≠ 0 then [] else (List.range (cols t)).map (colF t)

theorem ref08_Transpose_gen {H : Hp} {c : C} {t : Tab} (h : RdT H c t) (n : Nat) (hn : 1100 ≤ n) (f : Nat) (hf : 1001 ≤ f) :
    ∃ c' H', ref08_Transpose (O0 n).Φ (O0 n).Ψ f c H = some (.one c', H') ∧ OwT H.length H' c' (trF t) ∧ Ext H.length H H' := by
  have hc := ref08_Check_spec t n (by omega)
  simp only [ref08_Transpose, h.low 1, Option.bind_some, hc, xAD_d, xDI_v, xite_decide, xite_not, h.hok, xif_tt]
  unfold trF
  by_cases h0 : chk t = 0
  · simp only [h0, if_true, ne_eq, not_true, if_false]
    have hlen := chk_len h0
    have hrows := chk_row h0
    have hcols := chk_cols h0
    have key := iter_ex (R := A × Hp) (cols t) (fun i (x : Hp × C × C × Int × Unit) => ∃ H1 out, x = (H1, c, out, (i : Int), ()) ∧ OwT H.length H1 out ((List.range i).map (colF t)) ∧ Ext H.length H H1) (fun p => ∃ c' H', p = (.one c', H') ∧ OwT H.length H' c' ((List.range (cols t)).map (colF t)) ∧ Ext H.length H H')
      (F := fun (x : Hp × C × C × Int × Unit) (rec : (Hp × C × C × Int × Unit) → Option (A × Hp)) => ref08_Transpose_l0 (O0 n).Φ (O0 n).Ψ f (fun a b c d => rec (a, b, c, d, ())) x.1 x.2.1 x.2.2.1 x.2.2.2.1)
      (fun i x rec hi hx hrec => by
        obtain ⟨H1, out, rfl, ho, he⟩ := hx
        have h1 := h.ext he
        have hcs := ref08_Columns_spec t n (by omega)
        by_cases hlt : i < cols t
        · have hw := wrap_i (i + 1) (by omega) (by omega)
          have hlt' : (i : Int) < cols t := by omega
          obtain ⟨rc, Hq, e1, e2, e3⟩ := ref08_column_Ψ h1 (by omega) i (fun r hr => by have := (hrows r hr).2.2.1; omega) n (by omega)
          have ho1 := ho.ext e3
          obtain ⟨c2, H2, d1, d2, d3⟩ := ho1.row (Nat.le_trans he.1 e3.1) e2.rd (fun k hk e => by
            have := e2.hid k hk
            have := ho.rd.lt k e
            omega)
          have hsz : (((List.range i).map (colF t)).length + [rc].length) * 24 ≤ 140737488355328 := by simp; omega
          simp only [ref08_Transpose_l0, h1.low 1, Option.bind_some, hcs, xAD_d, xDI_v, xite_decide, hlt', if_true, h1.hok, xif_tt, e1, xone_one, oneCs_one e2.rd.hok, hPush, ho1.rd.len, hCells_box, hsz, decide_true, d1, d2.rd.hok, hw]
          exact hrec _ hlt ⟨H2, c2, rfl, by rw [List.range_succ, List.map_append]; exact d2, he.trans ((e3.le he.1).trans d3)⟩
        · have hlt' : ¬ (i : Int) < cols t := by omega
          have hok : xokR (.one out) = true := ho.rd.hok
          obtain rfl : i = cols t := by omega
          simp only [ref08_Transpose_l0, h1.low 1, hcs, xAD_d, xDI_v, Option.bind_some, xite_decide, hlt', if_false, hok, xif_tt]
          exact ⟨_, rfl, out, H1, rfl, ho, he⟩) f 0 (H, c, .full [], (0 : Int), ()) (by omega) (by omega) ⟨H, .full [], rfl, .inl ⟨rfl, rfl⟩, .refl (Nat.le_refl _)⟩
    obtain ⟨_, hr, c', H', rfl, h1, h2⟩ := key
    exact ⟨c', H', hr, h1, h2⟩
  · simp only [h0, if_false, ne_eq, not_false_eq_true, if_true]
    exact ⟨_, _, rfl, .inl ⟨rfl, rfl⟩, .refl (Nat.le_refl _)⟩
theorem ref08_Transpose_Ψ {H : Hp} {c : C} {t : Tab} (h : RdT H c t) (n : Nat) (hn : 1101 ≤ n) :
    ∃ c' H', (O0 n).Ψ i_ref08_Transpose [.one c] H = some (.one c', H') ∧ OwT H.length H' c' (trF t) ∧ Ext H.length H H' := by
  obtain ⟨m, rfl⟩ := nat_succ (n := n) (k := 0) (by omega)
  obtain ⟨c', H', h1, h2, h3⟩ := ref08_Transpose_gen h m (by omega) m (by omega)
  exact ⟨c', H', by rw [ref08_Transpose_runH]; exact h1, h2, h3⟩
theorem ref08_Transpose_spec (t : Tab) (n : Nat) (hn : 1101 ≤ n) : (O0 n).Φ i_ref08_Transpose [aT t] = some (aT (trF t)) := by
  obtain ⟨m, rfl⟩ := nat_succ (n := n) (k := 0) (by omega)
  obtain ⟨c', H', h1, h2, h3⟩ := ref08_Transpose_gen (RdT.data [] t) m (by omega) m (by omega)
  rw [ref08_Transpose_run, h1, Option.bind_some]
  simp only [xlowR, h2.rd.low 1, Option.bind_some]
end Go.Av
