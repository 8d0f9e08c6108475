/-
  Tables beside each other: the program's.
-/
import Derived.Test.YtnfbgleaodkjpaaHtJoin
set_option linter.all false
set_option linter.unusedSimpArgs false
namespace Go.Av

theorem RwP.appx {H : Hp} {rc : C} {r : Row} (h : RwP (some true) H rc r) (s : Txt) (q : Row) : ∃ rc' H', hApp H rc ((s :: q).map sC) = some (rc', H') ∧ RwP (some false) H' rc' (r ++ s :: q) ∧ But rc H H' ∧ ∀ k, rc'.hid = some k → rc.hid = some k ∨ H.length ≤ k := by
  rcases h with ⟨rfl, rfl⟩ | ⟨k, rfl, h2⟩
  · refine ⟨.hs H.length 0 (q.length + 1), H ++ [some ⟨(s :: q).map sC, false⟩], by simp [hApp, xOnes], .inr ⟨H.length, rfl, hGet_push H _⟩, ⟨by simp, fun k hk _ => hGet_push_lt hk _⟩, fun k hk => by simp only [C.hid, Option.some.injEq] at hk; right; omega⟩
  · refine ⟨.hs H.length 0 (r.length + (q.length + 1)), H ++ [some ⟨(r ++ s :: q).map sC, false⟩], ?_, .inr ⟨H.length, by simp, hGet_push H _⟩, ⟨by simp, fun j hj _ => hGet_push_lt hj _⟩, fun j hj => by simp only [C.hid, Option.some.injEq] at hj; right; omega⟩
    simp only [List.map_cons, hApp, h2, Option.bind_some]
    rw [if_pos (by simp), if_neg (by simp), if_pos trivial]
    simp [List.map_append, List.take_of_length_le]

def bsM (a b : Tab) (i : Nat) : Tab := List.zipWith (· ++ ·) (a.take i) (b.take i) ++ a.drop i
theorem bsM_len (a b : Tab) (hl : a.length = b.length) (i : Nat) (hi : i ≤ a.length) : (bsM a b i).length = a.length := by simp [bsM]; omega
theorem bsM_get (a b : Tab) (hl : a.length = b.length) (i : Nat) (hi : i < a.length) : (bsM a b i)[i]? = some a[i] := by
  unfold bsM
  have h1 : (List.zipWith (· ++ ·) (a.take i) (b.take i)).length = i := by simp; omega
  rw [List.getElem?_append_right (by omega), h1, Nat.sub_self, List.getElem?_drop, Nat.add_zero, List.getElem?_eq_getElem hi]
theorem bsM_set (a b : Tab) (hl : a.length = b.length) (i : Nat) (hi : i < a.length) : (bsM a b i).set i (a[i] ++ b[i]'(by omega)) = bsM a b (i + 1) := by
  unfold bsM
  have h1 : (List.zipWith (· ++ ·) (a.take i) (b.take i)).length = i := by simp; omega
  rw [List.set_append_right _ _ (by omega), h1, Nat.sub_self, drop_some a i hi, List.set_cons_zero, List.take_succ_eq_append_getElem hi, List.take_succ_eq_append_getElem (by omega : i < b.length), List.zipWith_append (by simp; omega), List.append_assoc]
  rfl

def besideF (a b : Tab) : Tab × Int :=
  if bothF a b ≠ 0 then ([], bothF a b) else if a.length ≠ b.length then ([], 4) else if 8 < cols a + cols b then ([], 2) else (List.zipWith (· ++ ·) a b, 0)

theorem tables_Beside_gen (a b : Tab) (n : Nat) (hn : 1100 ≤ n) (f : Nat) (hf : 1001 ≤ f) :
    ∃ c H', tables_Beside (O0 n).Φ (O0 n).Ψ f (tD a) (tD b) [] = some (.tup [.one c, aI (besideF a b).2], H') ∧ RdT H' c (besideF a b).1 := by
  have hc := tables_checkAll_spec a b n (by omega)
  simp only [tables_Beside, hc, Option.bind_some, xAD_d, xDI_v, xite_decide, xite_not, length_tD, besideF]
  by_cases h0 : bothF a b = 0
  · obtain ⟨ca, cb⟩ := both0 h0
    have la := chk_len ca
    have lb := chk_len cb
    have lca := chk_cols ca
    have lcb := chk_cols cb
    have hw : IntKind.i64.wrap ((cols a : Int) + (cols b : Int)) = (cols a : Int) + (cols b : Int) := wrap_i _ (by omega) (by omega)
    obtain ⟨c, H1, e1, m1, x1⟩ := tables_clone_Ψ a (by omega) (fun r hr => by have := chk_row ca r hr; omega) [] n (by omega)
    have hl1 := m1.rd.len
    simp only [h0, if_true, ne_eq, not_true, if_false, tables_columns_spec a n (by omega), tables_columns_spec b n (by omega), Option.bind_some, xAD_d, xDI_v, hw, e1, xone_one, hl1, m1.rd.hok, xif_tt]
    have e8 : (8 < (cols a : Int) + (cols b : Int)) ↔ 8 < cols a + cols b := by omega
    have eca : ((a.length : Int) = (b.length : Int)) ↔ a.length = b.length := by omega
    simp only [e8, eca]
    by_cases p1 : a.length = b.length
    · by_cases p2 : 8 < cols a + cols b
      · simp only [p1, p2, if_true, not_true, if_false]
        exact ⟨_, _, rfl, .inr (.inl ⟨rfl, rfl⟩)⟩
      · simp only [eq_true p1, p2, if_true, not_true, if_false]
        have key := iter_ex (R := A × Hp) a.length (fun i (x : Hp × List (List D) × C × Int × Int × Unit) => ∃ H1 y, x = (H1, tD b, c, (a.length : Int), (i : Int), ()) ∧ MuT 0 y H1 c (bsM a b i) ∧ ∀ j, i ≤ j → y j = some true) (fun p => ∃ c H', p = (.tup [.one c, aI 0], H') ∧ RdT H' c (List.zipWith (· ++ ·) a b))
          (F := fun (x : Hp × List (List D) × C × Int × Int × Unit) (rec : (Hp × List (List D) × C × Int × Int × Unit) → Option (A × Hp)) => tables_Beside_l0 (O0 n).Φ (O0 n).Ψ f (fun a b c d e => rec (a, b, c, d, e, ())) x.1 x.2.1 x.2.2.1 x.2.2.2.1 x.2.2.2.2.1)
          (fun i x rec hi hx hrec => by
            obtain ⟨H1, y, rfl, hm, hy⟩ := hx
            by_cases hlt : i < a.length
            · have hwi := wrap_i (i + 1) (by omega) (by omega)
              have hlt' : (i : Int) < a.length := by omega
              have hib : i < b.length := by omega
              have hlen := bsM_len a b p1 i (by omega)
              obtain ⟨p, rc, a1, a2, a3, a4, a5, _⟩ := hm.at (Nat.zero_le _) i (by rw [hlen]; exact hlt)
              have hg : (bsM a b i)[i]'(by rw [hlen]; exact hlt) = a[i] := by
                have := bsM_get a b p1 i hlt
                rw [List.getElem?_eq_getElem (by rw [hlen]; exact hlt)] at this
                simpa using this
              rw [hg, hy i (Nat.le_refl _)] at a3
              have hra := chk_row ca _ (List.getElem_mem hlt)
              have hrb := chk_row cb _ (List.getElem_mem hib)
              obtain ⟨s, q, hsq⟩ : ∃ s q, b[i] = s :: q := by
                cases hb : b[i] with
                | nil => rw [hb] at hrb; simp at hrb
                | cons s q => exact ⟨s, q, rfl⟩
              obtain ⟨rc', H2, b1, b2, b3, b4⟩ := a3.appx s q
              rw [← hsq] at b1 b2
              obtain ⟨H3, d1, d2, _⟩ := a5 (some false) H2 rc' _ b3 b2 b4
              rw [bsM_set a b p1 i hlt] at d2
              have hA : hAddr (.d (.sl (tD b))) (i : Int) = some (.d (.pp [.sl (rD b[i])])) := hAt_tD b i hib
              have hL : hLoad [] (.d (.pp [.sl (rD b[i])])) = some (.d (.sl (rD b[i]))) := rfl
              have hsz : (a[i].length + (b[i].map sC).length) * 16 ≤ 140737488355328 := by simp; omega
              simp only [tables_Beside_l0, xite_decide, hlt', if_true, a1, a2, hA, hL, Option.bind_some, a3.rd.len, hCells_rD, hsz, decide_true, xif_tt, b1, d1, hm.rd.hok, hwi]
              exact hrec _ hlt ⟨H3, _, rfl, d2, fun j hj => by rw [upd_ne _ _ _ _ (by omega)]; exact hy j (by omega)⟩
            · have hlt' : ¬ (i : Int) < a.length := by omega
              obtain rfl : i = a.length := by omega
              have hokR : xokR (.tup [.one c, aI 0]) = true := by have := hm.rd.hok; simp only [xokR, List.all_cons, List.all_nil, xokC, this]; rfl
              have hr := hm.rd
              have he : bsM a b a.length = List.zipWith (· ++ ·) a b := by
                unfold bsM; rw [List.take_length, List.drop_length, List.append_nil, List.take_of_length_le (by omega)]
              rw [he] at hr
              simp only [tables_Beside_l0, xite_decide, hlt', if_false, hokR, xif_tt]
              exact ⟨_, rfl, c, H1, rfl, hr⟩) f 0 (H1, tD b, c, (a.length : Int), (0 : Int), ()) (by omega) (by omega) ⟨H1, _, rfl, by simpa [bsM] using m1, fun j _ => rfl⟩
        obtain ⟨_, hr, c', H', rfl, h1⟩ := key
        exact ⟨c', H', hr, h1⟩
    · simp only [p1, if_false, not_false_eq_true, if_true]
      exact ⟨_, _, rfl, .inr (.inl ⟨rfl, rfl⟩)⟩
  · simp only [h0, if_false, ne_eq, not_false_eq_true, if_true]
    exact ⟨_, _, rfl, .inr (.inl ⟨rfl, rfl⟩)⟩
theorem tables_Beside_spec (a b : Tab) (n : Nat) (hn : 1101 ≤ n) : (O0 n).Φ i_tables_Beside [aT a, aT b] = some (two (aT (besideF a b).1) (aI (besideF a b).2)) := by
  obtain ⟨m, rfl⟩ := nat_succ (n := n) (k := 0) (by omega)
  obtain ⟨c', H', h1, h2⟩ := tables_Beside_gen a b m (by omega) m (by omega)
  rw [tables_Beside_run, h1, Option.bind_some]
  simp only [xlowR, xlowRs, h2.low 1, Option.bind_some]
  rfl
end Go.Av

set_option linter.unusedSimpArgs false
namespace Go.Av

theorem chkR_mem : ∀ {r : Row}, chkR r = 0 → ∀ s ∈ r, chkS s = 0
  | [], _, s, hs => by cases hs
  | q :: r, h, s, hs => by
    rw [chkR] at h
    split at h
    · rename_i h1
      rcases List.mem_cons.1 hs with rfl | hs
      · exact h1
      · exact chkR_mem h s hs
    · rename_i h1; exact absurd h h1
theorem chkR_of : ∀ {r : Row}, (∀ s ∈ r, chkS s = 0) → chkR r = 0
  | [], _ => rfl
  | q :: r, h => by rw [chkR, if_pos (h q (List.mem_cons_self ..))]; exact chkR_of fun s hs => h s (List.mem_cons_of_mem _ hs)
theorem chkL_of {n0 : Nat} : ∀ {t : Tab}, (∀ r ∈ t, 1 ≤ r.length ∧ r.length ≤ 8 ∧ r.length = n0 ∧ chkR r = 0) → chkL n0 t = 0
  | [], _ => rfl
  | r :: t, h => by
    obtain ⟨h1, h2, h3, h4⟩ := h r (List.mem_cons_self ..)
    rw [chkL, if_neg (by omega), if_neg (by omega), if_neg (by simpa using h3), if_pos h4]
    exact chkL_of fun q hq => h q (List.mem_cons_of_mem _ hq)
theorem chk_of {t : Tab} {n0 : Nat} (hl : t.length ≤ 8) (h : ∀ r ∈ t, 1 ≤ r.length ∧ r.length ≤ 8 ∧ r.length = n0 ∧ ∀ s ∈ r, chkS s = 0) : chk t = 0 := by
  unfold chk
  rw [if_neg (by omega)]
  cases t with
  | nil => rfl
  | cons r t =>
    have h0 := (h r (List.mem_cons_self ..)).2.2.1
    rw [show ((r :: t).headD []).length = n0 from h0]
    exact chkL_of fun q hq => by obtain ⟨a, b, c, d⟩ := h q hq; exact ⟨a, b, c, chkR_of d⟩
theorem range_getD (r : Row) : (List.range r.length).map (fun k => r.getD k []) = r := by
  apply List.ext_getElem?
  intro k
  rw [List.getElem?_map]
  rcases Nat.lt_or_ge k r.length with h | h
  · rw [List.getElem?_range h]; simp [h]
  · rw [List.getElem?_eq_none (by simpa using h), List.getElem?_eq_none (by omega)]; rfl
theorem getD_mem (r : Row) (k : Nat) (h : k < r.length) : r.getD k [] ∈ r := by
  have : r.getD k [] = r[k] := by simp [h]
  rw [this]; exact List.getElem_mem h
theorem colF_getD (t : Tab) (k i : Nat) (h : i < t.length) : (colF t k).getD i [] = t[i].getD k [] := by simp [colF, h]

theorem colF_ok {a : Tab} (ca : chk a = 0) (k : Nat) (hk : k < cols a) : ∀ s ∈ colF a k, chkS s = 0 := by
  intro s hs
  obtain ⟨r, hr, rfl⟩ := List.mem_map.1 hs
  obtain ⟨_, _, h3, h4⟩ := chk_row ca r hr
  exact chkR_mem h4 _ (getD_mem r k (by omega))

theorem tr_pair {a b : Tab} (ca : chk a = 0) (cb : chk b = 0) (hl : a.length = b.length) (hc : cols a + cols b ≤ 8) : trF (trF a ++ trF b) = List.zipWith (· ++ ·) a b := by
  have la := chk_len ca
  have ea : trF a = (List.range (cols a)).map (colF a) := by simp [trF, ca]
  have eb : trF b = (List.range (cols b)).map (colF b) := by simp [trF, cb]
  rw [ea, eb]
  rcases Nat.eq_zero_or_pos a.length with h0 | hpos
  · have ha : a = [] := List.eq_nil_of_length_eq_zero h0
    have hb : b = [] := List.eq_nil_of_length_eq_zero (by omega)
    subst ha; subst hb; rfl
  · have hca : 1 ≤ cols a := by have := chk_row ca a[0] (List.getElem_mem hpos); omega
    generalize hT : (List.range (cols a)).map (colF a) ++ (List.range (cols b)).map (colF b) = T
    have hrows : ∀ r ∈ T, 1 ≤ r.length ∧ r.length ≤ 8 ∧ r.length = a.length ∧ ∀ s ∈ r, chkS s = 0 := fun r hr => by
      rw [← hT] at hr
      rcases List.mem_append.1 hr with h | h
      · obtain ⟨k, hk, rfl⟩ := List.mem_map.1 h
        exact ⟨by simp [colF]; omega, by simp [colF]; omega, by simp [colF], colF_ok ca k (List.mem_range.1 hk)⟩
      · obtain ⟨k, hk, rfl⟩ := List.mem_map.1 h
        exact ⟨by simp [colF]; omega, by simp [colF]; omega, by simp [colF, hl], colF_ok cb k (List.mem_range.1 hk)⟩
    have hTl : T.length = cols a + cols b := by rw [← hT]; simp
    have cT : chk T = 0 := chk_of (by omega) hrows
    have hcT : cols T = a.length := by rw [cols_get T (by omega)]; exact (hrows _ (List.getElem_mem _)).2.2.1
    have e : trF T = (List.range (cols T)).map (colF T) := by simp [trF, cT]
    rw [e, hcT]
    apply List.ext_getElem?
    intro i
    rw [List.getElem?_map, List.getElem?_zipWith]
    rcases Nat.lt_or_ge i a.length with hi | hi
    · have hib : i < b.length := by omega
      rw [List.getElem?_range hi, List.getElem?_eq_getElem hi, List.getElem?_eq_getElem hib]
      simp only [Option.map_some]
      congr 1
      unfold colF
      rw [← hT, List.map_append, List.map_map, List.map_map]
      have h1 : (List.range (cols a)).map ((fun r => r.getD i []) ∘ colF a) = a[i] := by
        have := range_getD a[i]
        rw [(chk_row ca _ (List.getElem_mem hi)).2.2.1] at this
        rw [← this]
        apply List.map_congr_left
        intro k _
        simp only [Function.comp, colF_getD a k i hi]
      have h2 : (List.range (cols b)).map ((fun r => r.getD i []) ∘ colF b) = b[i] := by
        have := range_getD b[i]
        rw [(chk_row cb _ (List.getElem_mem hib)).2.2.1] at this
        rw [← this]
        apply List.map_congr_left
        intro k _
        simp only [Function.comp, colF_getD b k i hib]
      rw [h1, h2]
    · rw [List.getElem?_eq_none (by simpa using hi), List.getElem?_eq_none hi]; rfl

theorem OwT.cells {n : Nat} {H : Hp} {c : C} {t : Tab} (h : OwT n H c t) : ∃ cs', hCells H c = some cs' ∧ cs'.length = t.length ∧ ∀ (i : Nat) (r : Row), t[i]? = some r → ∃ rc, cs'[i]? = some rc ∧ RdR H rc r ∧ ∀ q, rc.hid = some q → n ≤ q := by
  rcases h with ⟨rfl, rfl⟩ | ⟨k, cs, _, rfl, h2, h3, h4⟩
  · exact ⟨[], rfl, rfl, fun i r hr => by simp at hr⟩
  · refine ⟨cs, ?_, h3, fun i r hr => ?_⟩
    · simp only [hCells, h2, Option.bind_some, List.drop_zero, Nat.zero_add]
      rw [if_pos (by omega), List.take_of_length_le (by omega)]
    · obtain ⟨rc, g1, g2, _, g4⟩ := h4 i r hr; exact ⟨rc, g1, g2, g4⟩

theorem ref08_Beside_gen (a b : Tab) (n : Nat) (hn : 1200 ≤ n) (f : Nat) :
    ∃ c H', ref08_Beside (O0 n).Φ (O0 n).Ψ f (tD a) (tD b) [] = some (.tup [.one c, aI (besideF a b).2], H') ∧ RdT H' c (besideF a b).1 := by
  have hc := ref08_both_spec a b n (by omega)
  simp only [ref08_Beside, hc, Option.bind_some, xAD_d, xDI_v, xite_decide, xite_not, length_tD, besideF]
  by_cases h0 : bothF a b = 0
  · obtain ⟨ca, cb⟩ := both0 h0
    have la := chk_len ca
    have lb := chk_len cb
    have lca := chk_cols ca
    have lcb := chk_cols cb
    have hw : IntKind.i64.wrap ((cols a : Int) + (cols b : Int)) = (cols a : Int) + (cols b : Int) := wrap_i _ (by omega) (by omega)
    have e8 : (8 < (cols a : Int) + (cols b : Int)) ↔ 8 < cols a + cols b := by omega
    have eca : ((a.length : Int) = (b.length : Int)) ↔ a.length = b.length := by omega
    simp only [h0, if_true, ne_eq, not_true, if_false, ref08_Columns_spec a n (by omega), ref08_Columns_spec b n (by omega), Option.bind_some, xAD_d, xDI_v, hw, e8, eca]
    by_cases p1 : a.length = b.length
    · by_cases p2 : 8 < cols a + cols b
      · simp only [p1, p2, if_true, not_true, if_false]
        exact ⟨_, _, rfl, .inr (.inl ⟨rfl, rfl⟩)⟩
      · obtain ⟨c1, H1, e1, m1, x1⟩ := ref08_Transpose_Ψ (RdT.data [] a) n (by omega)
        obtain ⟨c2, H2, e2, m2, x2⟩ := ref08_Transpose_Ψ (RdT.data H1 b) n (by omega)
        have m1' := m1.ext x2
        obtain ⟨cs', g1, g2, g3⟩ := m2.cells
        have hlt : ∀ k, c1.hid = some k → k < H1.length := fun k hk => m1.rd.lt k hk
        obtain ⟨c3, H3, d1, d2, d3⟩ := m1'.app (n := ([] : Hp).length) (Nat.zero_le _) cs' (trF b) g2 (fun i r hr => by
          obtain ⟨rc, q1, q2, q3⟩ := g3 i r hr
          exact ⟨rc, q1, q2, fun k hk => ⟨Nat.zero_le _, fun e => by have := q3 k hk; have := hlt k e; omega⟩⟩)
        obtain ⟨c4, H4, f1, f2, f3⟩ := ref08_Transpose_Ψ d2.rd n (by omega)
        have hta : (trF a).length ≤ 8 := by simp [trF, ca]; omega
        have htb : (trF b).length ≤ 8 := by simp [trF, cb]; omega
        have hsz : ((trF a).length + cs'.length) * 24 ≤ 140737488355328 := by rw [g2]; omega
        have hok : xokR (.tup [.one c4, aI 0]) = true := by have := f2.rd.hok; simp only [xokR, List.all_cons, List.all_nil, xokC, this]; rfl
        simp only [eq_true p1, p2, if_true, not_true, if_false, e1, e2, xone_one, Option.bind_some, m1'.rd.len, g1, hsz, decide_true, xif_tt, d1, d2.rd.hok, f1, hok]
        refine ⟨_, _, rfl, ?_⟩
        have := f2.rd
        rw [tr_pair ca cb p1 (by omega)] at this
        exact this
    · simp only [p1, if_false, not_false_eq_true, if_true]
      exact ⟨_, _, rfl, .inr (.inl ⟨rfl, rfl⟩)⟩
  · simp only [h0, if_false, ne_eq, not_false_eq_true, if_true]
    exact ⟨_, _, rfl, .inr (.inl ⟨rfl, rfl⟩)⟩
theorem ref08_Beside_spec (a b : Tab) (n : Nat) (hn : 1201 ≤ n) : (O0 n).Φ i_ref08_Beside [aT a, aT b] = some (two (aT (besideF a b).1) (aI (besideF a b).2)) := by
  obtain ⟨m, rfl⟩ := nat_succ (n := n) (k := 0) (by omega)
  obtain ⟨c', H', h1, h2⟩ := ref08_Beside_gen a b m (by omega) m
  rw [ref08_Beside_run, h1, Option.bind_some]
  simp only [xlowR, xlowRs, h2.low 1, Option.bind_some]
  rfl
theorem besideF_shp (a b : Tab) : (besideF a b).1.length ≤ 1000 ∧ ∀ r ∈ (besideF a b).1, r.length ≤ 1000 := by
  unfold besideF
  by_cases h0 : bothF a b = 0
  · obtain ⟨ca, cb⟩ := both0 h0
    have := chk_len ca
    simp only [h0, ne_eq, not_true, if_false]
    split
    · simp
    · split
      · simp
      · refine ⟨by simp; omega, fun r hr => ?_⟩
        obtain ⟨i, hi⟩ := List.getElem?_of_mem hr
        rw [List.getElem?_zipWith] at hi
        split at hi
        · rename_i x y hx hy
          simp only [Option.some.injEq] at hi
          subst hi
          have h1 := chk_row ca x (List.mem_of_getElem? hx)
          have h2 := chk_row cb y (List.mem_of_getElem? hy)
          simp; omega
        · cases hi
  · simp [h0]

theorem tablesJoins_spec (a b : Tab) (n : Nat) (hn : 1300 ≤ n) : (O0 n).Φ i_law08_TablesJoins [aT a, aT b] = some (aB true) := by
  obtain ⟨m, rfl⟩ := nat_succ (n := n) (k := 0) (by omega)
  rw [law08_TablesJoins_run]
  have e0 := awake_spec m (by omega)
  have e1 := ref08_Same_spec (stackF a b).1 (stackF a b).1 (stackF_shp a b).1 (stackF_shp a b).2 m (by omega)
  have e2 := ref08_Same_spec (besideF a b).1 (besideF a b).1 (besideF_shp a b).1 (besideF_shp a b).2 m (by omega)
  simp only [law08_TablesJoins, small_spec a m (by omega), small_spec b m (by omega), Option.bind_some, xAD_d, xDB_v, xite_not]
  cases smallT a
  · simp only [xite_false, e0, Option.bind_some, xAD_d, xDB_v]
  · cases smallT b
    · simp only [xite_true, xite_false, e0, Option.bind_some, xAD_d, xDB_v]
    · simp only [xite_true, tables_Stack_spec a b m (by omega), ref08_Stack_spec a b m (by omega), tables_Beside_spec a b m (by omega), ref08_Beside_spec a b m (by omega), Option.bind_some, xtup_tup, List.getElem?_cons_zero, List.getElem?_cons_succ, xAD_d, xDL_sl, xDI_v, xDB_v, e1, e2, e0, xite_decide, xite_true, if_true, decide_true]
end Go.Av
