/-
  Two tables below or beside each other.
-/
import Derived.Test.YtnfbgleaodkjpaaHtTr
set_option linter.all false
set_option linter.unusedSimpArgs false
namespace Go.Av

def bothF (a b : Tab) : Int := if chk a ≠ 0 then chk a else chk b
theorem ref08_both_spec (a b : Tab) (n : Nat) (hn : 101 ≤ n) : (O0 n).Φ i_ref08_both [aT a, aT b] = some (aI (bothF a b)) := by
  obtain ⟨m, rfl⟩ := nat_succ (n := n) (k := 0) (by omega)
  rw [ref08_both_run]
  simp only [ref08_both, ref08_Check_spec a m (by omega), ref08_Check_spec b m (by omega), Option.bind_some, xAD_d, xDI_v, xite_not, xite_decide, bothF]
  by_cases h : chk a = 0
  · simp only [h, if_true, ne_eq, not_true, if_false]
  · simp only [h, if_false, ne_eq, not_false_eq_true, if_true]
theorem tables_checkAll_spec (a b : Tab) (n : Nat) (hn : 102 ≤ n) : (O0 n).Φ i_tables_checkAll [.one (.d (.sl [[.sl (tD a)], [.sl (tD b)]]))] = some (aI (bothF a b)) := by
  obtain ⟨m, rfl⟩ := nat_succ (n := n) (k := 0) (by omega)
  rw [tables_checkAll_run, tables_checkAll]
  obtain ⟨m2, rfl⟩ : ∃ m2, m = m2 + 3 := ⟨m - 3, by omega⟩
  have ha := tables_Check_spec a (m2 + 3) (by omega)
  have hb := tables_Check_spec b (m2 + 3) (by omega)
  have w1 : IntKind.i64.wrap ((0 : Int) + 1) = 1 := wrap_i _ (by omega) (by omega)
  have w2 : IntKind.i64.wrap ((1 : Int) + 1) = 2 := wrap_i _ (by omega) (by omega)
  have x0 : xElem 1 [[D.sl (tD a)], [D.sl (tD b)]] (0 : Int) = some [D.sl (tD a)] := rfl
  have x1 : xElem 1 [[D.sl (tD a)], [D.sl (tD b)]] (1 : Int) = some [D.sl (tD b)] := rfl
  have hl : (([[D.sl (tD a)], [D.sl (tD b)]] : List (List D)).length : Int) = 2 := rfl
  have c0 : (0 : Int) < 2 := by omega
  have c1 : (1 : Int) < 2 := by omega
  have c2 : ¬ (2 : Int) < 2 := by omega
  simp only [hl, iter, tables_checkAll_l0, xite_decide, xite_not, c0, c1, c2, if_true, if_false, x0, x1, Option.bind_some, List.length_singleton, Nat.le_refl, decide_true, xif_tt, getD_one, xDL_sl, ha, hb, xAD_d, xDI_v, w1, w2, bothF]
  by_cases h : chk a = 0
  · by_cases h2 : chk b = 0
    · simp only [h, h2, if_true, ne_eq, not_true, if_false, xite_true]
    · simp only [h, h2, if_true, ne_eq, not_true, if_false, xite_true]
  · simp only [h, if_false, ne_eq, not_false_eq_true, if_true, xite_true]
theorem both0 {a b : Tab} (h : bothF a b = 0) : chk a = 0 ∧ chk b = 0 := by
  unfold bothF at h
  by_cases h1 : chk a = 0
  · simp only [h1, ne_eq, not_true, if_false] at h; exact ⟨h1, h⟩
  · simp only [h1, ne_eq, not_false_eq_true, if_true] at h

/-- What a joined table and its error give. -/
def stackF (a b : Tab) : Tab × Int :=
  if bothF a b ≠ 0 then ([], bothF a b) else if 0 < a.length ∧ 0 < b.length ∧ cols a ≠ cols b then ([], 4) else if 8 < a.length + b.length then ([], 2) else (a ++ b, 0)

/-- The last part, of a table that may be appended to by rows that are read. -/
theorem app_tables {H : Hp} {c c' : C} {a b : Tab} (ha : RdT H c a) (hb : RdT H c' b) (hl : a.length + b.length ≤ 1000)
    (hx : (a = [] ∧ c = .full []) ∨ ∃ k cs ex, c = .hs k 0 a.length ∧ hGet H k = some ⟨cs, ex⟩ ∧ cs.length = a.length ∧ (∀ (i : Nat) (r : Row), a[i]? = some r → ∃ rc, cs[i]? = some rc ∧ RdR H rc r ∧ rc.hid ≠ some k) ∧ ∀ (i : Nat) (r : Row) (cs' : List C), hCells H c' = some cs' → b[i]? = some r → ∃ rc, cs'[i]? = some rc ∧ RdR H rc r ∧ rc.hid ≠ some k) :
    ∃ cs' q, hCells H c' = some cs' ∧ cs'.length = b.length ∧ hApp H c cs' = some q ∧ RdT q.2 q.1 (a ++ b) := by
  obtain ⟨cs', h1, h2, h3⟩ := hb.cells
  cases cs' with
  | nil =>
    obtain rfl : b = [] := List.eq_nil_of_length_eq_zero h2.symm
    refine ⟨[], (c, H), h1, rfl, ?_, by rw [List.append_nil]; exact ha⟩
    rcases hx with ⟨_, rfl⟩ | ⟨k, cs, ex, rfl, _⟩ <;> rfl
  | cons c1 cs' =>
    rcases hx with ⟨rfl, rfl⟩ | ⟨k, cs, ex, rfl, x2, x3, x4, x5⟩
    · refine ⟨_, (.hs H.length 0 (cs'.length + 1), H ++ [some ⟨c1 :: cs', false⟩]), h1, h2, by simp [hApp, xOnes], .inr (.inr ⟨H.length, 0, _, ?_, hGet_push H _, by simp only [List.nil_append, Nat.zero_add]; omega, fun i r hr => ?_⟩)⟩
      · simp only [List.length_cons] at h2; simp [h2]
      · obtain ⟨rc, g1, g2⟩ := h3 i r (by simpa using hr)
        exact ⟨rc, by rw [Nat.zero_add]; exact g1, g2.keep fun q hq => hGet_push_lt (g2.lt q hq) _⟩
    · have hkl := hGet_lt x2
      have rows : ∀ (H' : Hp), (∀ q, q < H.length → q ≠ k → hGet H' q = hGet H q) → ∀ (i : Nat) (r : Row), (a ++ b)[i]? = some r → ∃ rc, (cs ++ c1 :: cs')[i]? = some rc ∧ RdR H' rc r := fun H' hH i r hr => by
        have kp : ∀ rc r, RdR H rc r → rc.hid ≠ some k → RdR H' rc r := fun rc r g2 g3 => g2.keep fun q hq => hH q (g2.lt q hq) fun e => g3 (by rw [← e]; exact hq)
        rw [List.getElem?_append] at hr
        split at hr
        · rename_i hlt
          obtain ⟨rc, g1, g2, g3⟩ := x4 i r hr
          exact ⟨rc, by rw [List.getElem?_append_left (by omega)]; exact g1, kp rc r g2 g3⟩
        · rename_i hge
          obtain ⟨rc, g1, g2, g3⟩ := x5 _ r _ h1 hr
          exact ⟨rc, by rw [List.getElem?_append_right (by omega), x3]; exact g1, kp rc r g2 g3⟩
      simp only [List.length_cons] at h2
      cases ex with
      | true =>
        refine ⟨_, (.hs H.length 0 (a.length + (cs'.length + 1)), H ++ [some ⟨cs ++ c1 :: cs', false⟩]), h1, by simp [h2], ?_, .inr (.inr ⟨H.length, 0, _, by simp [h2], hGet_push H _, by simp [x3, h2], fun i r hr => ?_⟩)⟩
        · simp only [hApp, x2, Option.bind_some]
          rw [if_pos (by simp [x3]), if_neg (by simp [x3]), if_pos trivial]
          simp [List.take_of_length_le (by omega : cs.length ≤ a.length)]
        · obtain ⟨rc, g1, g2⟩ := rows (H ++ [some ⟨cs ++ c1 :: cs', false⟩]) (fun q hq _ => hGet_push_lt hq _) i r hr
          exact ⟨rc, by rw [Nat.zero_add]; exact g1, g2⟩
      | false =>
        have hnew := hGet_push (H.set k none) ⟨cs ++ c1 :: cs', false⟩
        simp only [List.length_set] at hnew
        refine ⟨_, (.hs H.length 0 (a.length + (cs'.length + 1)), H.set k none ++ [some ⟨cs ++ c1 :: cs', false⟩]), h1, by simp [h2], ?_, .inr (.inr ⟨H.length, 0, _, by simp [h2], hnew, by simp [x3, h2], fun i r hr => ?_⟩)⟩
        · simp only [hApp, x2, Option.bind_some]
          rw [if_pos (by simp [x3]), if_neg (by simp [x3]), if_neg (by simp), if_pos trivial]
          simp [List.take_of_length_le (by omega : cs.length ≤ a.length)]
        · obtain ⟨rc, g1, g2⟩ := rows (H.set k none ++ [some ⟨cs ++ c1 :: cs', false⟩]) (fun q hq hqk => by rw [hGet_push_lt (by simpa using hq), hGet_set_ne hqk]) i r hr
          exact ⟨rc, by rw [Nat.zero_add]; exact g1, g2⟩

theorem MuT.cells {n : Nat} {x : Nat → Option Bool} {H : Hp} {c : C} {t : Tab} (h : MuT n x H c t) (cs' : List C) (hc : hCells H c = some cs') (i : Nat) (r : Row) (hr : t[i]? = some r) : ∃ rc, cs'[i]? = some rc ∧ RdR H rc r ∧ ∀ q, rc.hid = some q → n ≤ q := by
  rcases h with ⟨rfl, rfl⟩ | ⟨k, cs, b, _, rfl, h2, h3, h4, _⟩
  · simp at hr
  · obtain ⟨rc, g1, g2, _, g4⟩ := h4 i r hr
    simp only [hCells, h2, Option.bind_some, List.drop_zero, Nat.zero_add] at hc
    rw [if_pos (by omega), List.take_of_length_le (by omega)] at hc
    simp only [Option.some.injEq] at hc
    subst hc
    exact ⟨rc, g1, g2.rd, g4⟩
/-- Two copies, the second made behind the first, put together. -/
theorem two_copies {m : Nat} {x y : Nat → Option Bool} {H1 H2 : Hp} {c c' : C} {a b : Tab} (ha : MuT m x H1 c a) (hb : MuT H1.length y H2 c' b) (he : Ext H1.length H1 H2) (hl : a.length + b.length ≤ 1000) :
    ∃ cs' q, hCells H2 c' = some cs' ∧ cs'.length = b.length ∧ hApp H2 c cs' = some q ∧ RdT q.2 q.1 (a ++ b) := by
  have ha2 := ha.ext he
  refine app_tables ha2.rd hb.rd hl ?_
  have hlt : ∀ k, c.hid = some k → k < H1.length := fun k hk => ha.rd.lt k hk
  rcases ha2 with h | ⟨k, cs, ex, _, rfl, h2, h3, h4, _⟩
  · exact .inl h
  · refine .inr ⟨k, cs, ex, rfl, h2, h3, fun i r hr => ?_, fun i r cs' hc hr => ?_⟩
    · obtain ⟨rc, g1, g2, g3, _⟩ := h4 i r hr; exact ⟨rc, g1, g2.rd, g3⟩
    · obtain ⟨rc, g1, g2, g3⟩ := hb.cells cs' hc i r hr
      exact ⟨rc, g1, g2, fun e => by have := g3 k e; have := hlt k rfl; omega⟩

theorem tables_Stack_gen (a b : Tab) (n : Nat) (hn : 1100 ≤ n) (f : Nat) :
    ∃ c H', tables_Stack (O0 n).Φ (O0 n).Ψ f (tD a) (tD b) [] = some (.tup [.one c, aI (stackF a b).2], H') ∧ RdT H' c (stackF a b).1 := by
  have hc := tables_checkAll_spec a b n (by omega)
  simp only [tables_Stack, hc, Option.bind_some, xAD_d, xDI_v, xite_decide, xite_not, length_tD, stackF]
  by_cases h0 : bothF a b = 0
  · obtain ⟨ca, cb⟩ := both0 h0
    have la := chk_len ca
    have lb := chk_len cb
    have hw : IntKind.i64.wrap ((a.length : Int) + (b.length : Int)) = (a.length : Int) + (b.length : Int) := wrap_i _ (by omega) (by omega)
    obtain ⟨c1, H1, e1, m1, x1⟩ := tables_clone_Ψ a (by omega) (fun r hr => by have := chk_row ca r hr; omega) [] n (by omega)
    obtain ⟨c2, H2, e2, m2, x2⟩ := tables_clone_Ψ b (by omega) (fun r hr => by have := chk_row cb r hr; omega) H1 n (by omega)
    obtain ⟨cs', q, g1, g2, g3, g4⟩ := two_copies m1 m2 x2 (by omega)
    have hl1 := m1.rd.len
    have hsz : (a.length + cs'.length) * 24 ≤ 140737488355328 := by rw [g2]; omega
    have hok : xokR (.tup [.one q.1, aI 0]) = true := by have := g4.hok; simp only [xokR, List.all_cons, List.all_nil, xokC, this]; rfl
    simp only [h0, if_true, ne_eq, not_true, if_false, tables_columns_spec a n (by omega), tables_columns_spec b n (by omega), Option.bind_some, xAD_d, xDI_v, hw, e1, e2, xone_one, hl1, g1, hsz, decide_true, xif_tt, g3, hok]
    have e8 : (8 < (a.length : Int) + (b.length : Int)) ↔ 8 < a.length + b.length := by omega
    have eca : ((cols a : Int) = (cols b : Int)) ↔ cols a = cols b := by omega
    have epa : (0 < (a.length : Int)) ↔ 0 < a.length := by omega
    have epb : (0 < (b.length : Int)) ↔ 0 < b.length := by omega
    simp only [e8, eca, epa, epb]
    by_cases p1 : 0 < a.length <;> by_cases p2 : 0 < b.length <;> by_cases p3 : cols a = cols b <;> by_cases p4 : 8 < a.length + b.length <;> simp only [p1, p2, p3, p4, if_true, if_false, true_and, and_true, false_and, and_false, not_true, not_false_eq_true, and_self] <;>
      first
        | exact ⟨_, _, rfl, g4⟩
        | exact ⟨_, _, rfl, .inr (.inl ⟨rfl, rfl⟩)⟩
  · simp only [h0, if_false, ne_eq, not_false_eq_true, if_true]
    exact ⟨_, _, rfl, .inr (.inl ⟨rfl, rfl⟩)⟩
theorem ref08_Stack_gen (a b : Tab) (n : Nat) (hn : 1100 ≤ n) (f : Nat) :
    ∃ c H', ref08_Stack (O0 n).Φ (O0 n).Ψ f (tD a) (tD b) [] = some (.tup [.one c, aI (stackF a b).2], H') ∧ RdT H' c (stackF a b).1 := by
  have hc := ref08_both_spec a b n (by omega)
  simp only [ref08_Stack, hc, Option.bind_some, xAD_d, xDI_v, xite_decide, xite_not, length_tD, stackF]
  by_cases h0 : bothF a b = 0
  · obtain ⟨ca, cb⟩ := both0 h0
    have la := chk_len ca
    have lb := chk_len cb
    have hw : IntKind.i64.wrap ((a.length : Int) + (b.length : Int)) = (a.length : Int) + (b.length : Int) := wrap_i _ (by omega) (by omega)
    obtain ⟨c1, H1, e1, _, m1, x1⟩ := ref08_table_muΨ (RdT.data [] a) (by omega) (fun r hr => by have := chk_row ca r hr; omega) n (by omega)
    obtain ⟨c2, H2, e2, _, m2, x2⟩ := ref08_table_muΨ (RdT.data H1 b) (by omega) (fun r hr => by have := chk_row cb r hr; omega) n (by omega)
    obtain ⟨cs', q, g1, g2, g3, g4⟩ := two_copies m1 m2 x2 (by omega)
    have hl1 := m1.rd.len
    have hsz : (a.length + cs'.length) * 24 ≤ 140737488355328 := by rw [g2]; omega
    have hok : xokR (.tup [.one q.1, aI 0]) = true := by have := g4.hok; simp only [xokR, List.all_cons, List.all_nil, xokC, this]; rfl
    simp only [h0, if_true, ne_eq, not_true, if_false, ref08_Columns_spec a n (by omega), ref08_Columns_spec b n (by omega), Option.bind_some, xAD_d, xDI_v, hw, e1, e2, xone_one, hl1, g1, hsz, decide_true, xif_tt, g3, hok]
    have e8 : (8 < (a.length : Int) + (b.length : Int)) ↔ 8 < a.length + b.length := by omega
    have eca : ((cols a : Int) = (cols b : Int)) ↔ cols a = cols b := by omega
    have epa : (0 < (a.length : Int)) ↔ 0 < a.length := by omega
    have epb : (0 < (b.length : Int)) ↔ 0 < b.length := by omega
    simp only [e8, eca, epa, epb]
    by_cases p1 : 0 < a.length <;> by_cases p2 : 0 < b.length <;> by_cases p3 : cols a = cols b <;> by_cases p4 : 8 < a.length + b.length <;> simp only [p1, p2, p3, p4, if_true, if_false, true_and, and_true, false_and, and_false, not_true, not_false_eq_true, and_self] <;>
      first
        | exact ⟨_, _, rfl, g4⟩
        | exact ⟨_, _, rfl, .inr (.inl ⟨rfl, rfl⟩)⟩
  · simp only [h0, if_false, ne_eq, not_false_eq_true, if_true]
    exact ⟨_, _, rfl, .inr (.inl ⟨rfl, rfl⟩)⟩
theorem tables_Stack_spec (a b : Tab) (n : Nat) (hn : 1101 ≤ n) : (O0 n).Φ i_tables_Stack [aT a, aT b] = some (two (aT (stackF a b).1) (aI (stackF a b).2)) := by
  obtain ⟨m, rfl⟩ := nat_succ (n := n) (k := 0) (by omega)
  obtain ⟨c', H', h1, h2⟩ := tables_Stack_gen a b m (by omega) m
  rw [tables_Stack_run, h1, Option.bind_some]
  simp only [xlowR, xlowRs, h2.low 1, Option.bind_some]
  rfl
theorem ref08_Stack_spec (a b : Tab) (n : Nat) (hn : 1101 ≤ n) : (O0 n).Φ i_ref08_Stack [aT a, aT b] = some (two (aT (stackF a b).1) (aI (stackF a b).2)) := by
  obtain ⟨m, rfl⟩ := nat_succ (n := n) (k := 0) (by omega)
  obtain ⟨c', H', h1, h2⟩ := ref08_Stack_gen a b m (by omega) m
  rw [ref08_Stack_run, h1, Option.bind_some]
  simp only [xlowR, xlowRs, h2.low 1, Option.bind_some]
  rfl

theorem stackF_shp (a b : Tab) : (stackF a b).1.length ≤ 1000 ∧ ∀ r ∈ (stackF a b).1, r.length ≤ 1000 := by
  unfold stackF
  by_cases h0 : bothF a b = 0
  · obtain ⟨ca, cb⟩ := both0 h0
    have := chk_len ca
    have := chk_len cb
    simp only [h0, ne_eq, not_true, if_false]
    split
    · simp
    · split
      · simp
      · refine ⟨by simp; omega, fun r hr => ?_⟩
        rcases List.mem_append.1 hr with h | h
        · have := chk_row ca r h; omega
        · have := chk_row cb r h; omega
  · simp [h0]
end Go.Av
