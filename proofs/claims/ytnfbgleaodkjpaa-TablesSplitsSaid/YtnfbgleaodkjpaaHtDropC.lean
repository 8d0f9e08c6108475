/-
  A part of a block deleted.
-/
import Derived.Test.YtnfbgleaodkjpaaHtBeside2
set_option linter.all false
set_option linter.unusedSimpArgs false
namespace Go.Av

theorem hset_self {H : Hp} {k : Nat} {o : HO} (h : hGet H k = some o) : H.set k (some o) = H := by
  have h1 := hGet_some h
  apply List.ext_getElem?
  intro j
  rw [List.getElem?_set]
  by_cases hj : k = j
  · subst hj
    have := (List.getElem?_eq_some_iff.1 h1).1
    rw [if_pos rfl, if_pos this, h1]
  · rw [if_neg hj]
theorem rpl_nil {α : Type} (cs : List α) (off : Nat) : rpl cs off [] = cs := by simp [rpl]
theorem hApp_in {H : Hp} {k : Nat} {cs : List C} {b : Bool} (h : hGet H k = some ⟨cs, b⟩) (i : Nat) (ys : List C) (hf : i + ys.length ≤ cs.length) :
    hApp H (.hs k 0 i) ys = some (.hs k 0 (i + ys.length), H.set k (some ⟨rpl cs i ys, b⟩)) := by
  cases ys with
  | nil => rw [rpl_nil, hset_self h]; rfl
  | cons y yt =>
    simp only [hApp, h, Option.bind_some, Nat.zero_add]
    rw [if_pos (by simp at hf; omega), if_pos hf]
theorem hSub_hs (k off len : Nat) (a b : Nat) (h1 : a ≤ b) (h2 : b ≤ len) : hSub (.hs k off len) (a : Int) (b : Int) = some (.hs k (off + a) (b - a)) := by
  simp only [hSub]; rw [if_pos (by omega)]; congr 2; omega
theorem rpl_del {α : Type} (cs : List α) (i : Nat) (hi : i < cs.length) (z : α) : rpl (rpl cs i (cs.drop (i + 1))) (cs.length - 1) [z] = cs.eraseIdx i ++ [z] := by
  have hl : (cs.drop (i + 1)).length = cs.length - (i + 1) := by simp
  have h1 : (rpl cs i (cs.drop (i + 1))).length = cs.length := length_rpl _ _ _ (by rw [hl]; omega)
  apply List.ext_getElem?
  intro j
  rw [getElem?_rpl _ _ _ (by rw [h1]; simp; omega), getElem?_rpl _ _ _ (by rw [hl]; omega), hl, List.getElem?_append, List.length_eraseIdx, if_pos hi, List.getElem?_eraseIdx]
  simp only [List.length_singleton]
  by_cases a1 : j < cs.length - 1
  · rw [if_pos a1, if_pos a1]
    by_cases a2 : j < i
    · rw [if_pos a2, if_pos a2]
    · rw [if_neg a2, if_neg a2, if_pos (by omega), List.getElem?_drop]
      congr 1; omega
  · rw [if_neg a1, if_neg a1]
    by_cases a3 : j < cs.length - 1 + 1
    · rw [if_pos a3]
    · rw [if_neg a3, if_neg (by omega), if_neg (by omega), List.getElem?_eq_none (by omega), List.getElem?_eq_none (by simp; omega)]

theorem slices_Delete64_gen {H : Hp} {k : Nat} {cs : List C} {b : Bool} (h : hGet H k = some ⟨cs, b⟩) (hl : cs.length ≤ 1000) (i : Nat) (hi : i < cs.length) (Φ : Phi) (Ψ : Psi) (f : Nat) :
    slices_Delete_string_string_64 Φ Ψ f (.hs k 0 cs.length) (i : Int) ((i + 1 : Nat) : Int) H = some (.one (.hs k 0 (cs.length - 1)), H.set k (some ⟨cs.eraseIdx i ++ [sC []], b⟩)) := by
  have hkl := hGet_lt h
  have hL : ∀ a b c, hLen (.hs a b c) = some c := fun _ _ _ => rfl
  have hd : (cs.drop (i + 1)).length = cs.length - (i + 1) := by simp
  have e1 : (true && (decide ((0 : Int) ≤ (i : Int)) && (decide ((i : Int) ≤ ((i + 1 : Nat) : Int)) && (decide (((i + 1 : Nat) : Int) ≤ (cs.length : Int)) && decide ((cs.length : Int) ≤ (cs.length : Int)))))) = true := by simp; omega
  have e2 : ¬ ((i : Int) = ((i + 1 : Nat) : Int)) := by omega
  have e3 : hCells H (.hs k (0 + (i + 1)) (cs.length - (i + 1))) = some (cs.drop (i + 1)) := by
    simp only [hCells, h, Option.bind_some]
    rw [if_pos (by omega), Nat.zero_add, List.take_of_length_le (by omega)]
  have e4 := hApp_in h i (cs.drop (i + 1)) (by rw [hd]; omega)
  have e5 : i + (cs.drop (i + 1)).length = cs.length - 1 := by rw [hd]; omega
  rw [e5] at e4
  have e6 : (i - 0 + (cs.drop (i + 1)).length) * 16 ≤ 140737488355328 := by rw [hd]; omega
  have h1 : (rpl cs i (cs.drop (i + 1))).length = cs.length := length_rpl _ _ _ (by rw [hd]; omega)
  have hg := hGet_set_self hkl (some (⟨rpl cs i (cs.drop (i + 1)), b⟩ : HO))
  have e7 : hSubX (H.set k (some ⟨rpl cs i (cs.drop (i + 1)), b⟩)) (.hs k 0 (cs.length - 1)) ((cs.length - 1 : Nat) : Int) (cs.length : Int) = some (.hs k (cs.length - 1) 1) := by
    simp only [hSubX]
    rw [if_neg (by omega), hg, Option.bind_some, if_pos (by rw [h1]; omega)]
    congr 2 <;> omega
  have e8 : hClear (H.set k (some ⟨rpl cs i (cs.drop (i + 1)), b⟩)) (sC []) (.hs k (cs.length - 1) 1) = some (H.set k (some ⟨cs.eraseIdx i ++ [sC []], b⟩)) := by
    simp only [hClear, hg, Option.bind_some]
    rw [if_pos (by rw [h1]; omega), List.set_set]
    rw [show List.replicate 1 (sC []) = [sC []] from rfl, rpl_del cs i hi]
  have hs1 : hSub (.hs k 0 cs.length) (0 : Int) (i : Int) = some (.hs k (0 + 0) (i - 0)) := hSub_hs k 0 cs.length 0 i (by omega) (by omega)
  have hs2 : hSub (.hs k 0 cs.length) ((i + 1 : Nat) : Int) (cs.length : Int) = some (.hs k (0 + (i + 1)) (cs.length - (i + 1))) := hSub_hs k 0 cs.length (i + 1) cs.length (by omega) (by omega)
  have hok : xokR (.one (.hs k 0 (cs.length - 1))) = true := rfl
  rw [Nat.zero_add] at e3 hs2
  rw [Nat.sub_zero] at e6 hs1
  simp only [slices_Delete_string_string_64, hL, Option.bind_some, e1, xif_tt, xite_decide, e2, if_false, hs1, hs2, e3, e6, decide_true, Nat.sub_zero, Nat.zero_add, e4, e7, e8, hok]
theorem slices_Delete_gen {H : Hp} {k : Nat} {cs : List C} {b : Bool} (h : hGet H k = some ⟨cs, b⟩) (hl : cs.length ≤ 1000) (i : Nat) (hi : i < cs.length) (Φ : Phi) (Ψ : Psi) (f : Nat) :
    slices_Delete_string_string Φ Ψ f (.hs k 0 cs.length) (i : Int) ((i + 1 : Nat) : Int) H = some (.one (.hs k 0 (cs.length - 1)), H.set k (some ⟨cs.eraseIdx i ++ [.full []], b⟩)) := by
  have hkl := hGet_lt h
  have hL : ∀ a b c, hLen (.hs a b c) = some c := fun _ _ _ => rfl
  have hd : (cs.drop (i + 1)).length = cs.length - (i + 1) := by simp
  have e1 : (true && (decide ((0 : Int) ≤ (i : Int)) && (decide ((i : Int) ≤ ((i + 1 : Nat) : Int)) && (decide (((i + 1 : Nat) : Int) ≤ (cs.length : Int)) && decide ((cs.length : Int) ≤ (cs.length : Int)))))) = true := by simp; omega
  have e2 : ¬ ((i : Int) = ((i + 1 : Nat) : Int)) := by omega
  have e3 : hCells H (.hs k (0 + (i + 1)) (cs.length - (i + 1))) = some (cs.drop (i + 1)) := by
    simp only [hCells, h, Option.bind_some]
    rw [if_pos (by omega), Nat.zero_add, List.take_of_length_le (by omega)]
  have e4 := hApp_in h i (cs.drop (i + 1)) (by rw [hd]; omega)
  have e5 : i + (cs.drop (i + 1)).length = cs.length - 1 := by rw [hd]; omega
  rw [e5] at e4
  have e6 : (i - 0 + (cs.drop (i + 1)).length) * 24 ≤ 140737488355328 := by rw [hd]; omega
  have h1 : (rpl cs i (cs.drop (i + 1))).length = cs.length := length_rpl _ _ _ (by rw [hd]; omega)
  have hg := hGet_set_self hkl (some (⟨rpl cs i (cs.drop (i + 1)), b⟩ : HO))
  have e7 : hSubX (H.set k (some ⟨rpl cs i (cs.drop (i + 1)), b⟩)) (.hs k 0 (cs.length - 1)) ((cs.length - 1 : Nat) : Int) (cs.length : Int) = some (.hs k (cs.length - 1) 1) := by
    simp only [hSubX]
    rw [if_neg (by omega), hg, Option.bind_some, if_pos (by rw [h1]; omega)]
    congr 2 <;> omega
  have e8 : hClear (H.set k (some ⟨rpl cs i (cs.drop (i + 1)), b⟩)) (.full []) (.hs k (cs.length - 1) 1) = some (H.set k (some ⟨cs.eraseIdx i ++ [.full []], b⟩)) := by
    simp only [hClear, hg, Option.bind_some]
    rw [if_pos (by rw [h1]; omega), List.set_set]
    rw [show List.replicate 1 (C.full []) = [.full []] from rfl, rpl_del cs i hi]
  have hs1 : hSub (.hs k 0 cs.length) (0 : Int) (i : Int) = some (.hs k (0 + 0) (i - 0)) := hSub_hs k 0 cs.length 0 i (by omega) (by omega)
  have hs2 : hSub (.hs k 0 cs.length) ((i + 1 : Nat) : Int) (cs.length : Int) = some (.hs k (0 + (i + 1)) (cs.length - (i + 1))) := hSub_hs k 0 cs.length (i + 1) cs.length (by omega) (by omega)
  have hok : xokR (.one (.hs k 0 (cs.length - 1))) = true := rfl
  rw [Nat.zero_add] at e3 hs2
  rw [Nat.sub_zero] at e6 hs1
  simp only [slices_Delete_string_string, hL, Option.bind_some, e1, xif_tt, xite_decide, e2, if_false, hs1, hs2, e3, e6, decide_true, Nat.sub_zero, Nat.zero_add, e4, e7, e8, hok]

/-! Rows dropped. -/
def dropRowF (t : Tab) (i : Int) : Tab × Int := if chk t ≠ 0 then ([], chk t) else if plc i t.length < 0 then ([], 7) else (t.eraseIdx (plc i t.length).toNat, 0)

theorem MuT.del {n : Nat} {x : Nat → Option Bool} {H : Hp} {c : C} {t : Tab} (h : MuT n x H c t) (i : Nat) (hi : i < t.length) (hl : t.length ≤ 1000) (Φ : Phi) (Ψ : Psi) (f : Nat) :
    ∃ c' H', slices_Delete_string_string Φ Ψ f c (i : Int) ((i + 1 : Nat) : Int) H = some (.one c', H') ∧ RdT H' c' (t.eraseIdx i) := by
  rcases h with ⟨rfl, _⟩ | ⟨k, cs, b, h1, rfl, h2, h3, h4, h5⟩
  · simp at hi
  · have hkl := hGet_lt h2
    have hd := slices_Delete_gen h2 (by omega) i (by omega) Φ Ψ f
    rw [h3] at hd
    refine ⟨_, _, hd, .inr (.inr ⟨k, 0, _, by rw [List.length_eraseIdx, if_pos hi], hGet_set_self hkl _, ?_, fun j r hr => ?_⟩)⟩
    · simp [List.length_eraseIdx, hi, h3]
    · have hjl := (List.getElem?_eq_some_iff.1 hr).1
      rw [List.length_eraseIdx, if_pos hi] at hjl
      have key : ∃ q : Nat, t[q]? = some r ∧ (cs.eraseIdx i ++ [C.full []])[0 + j]? = cs[q]? := by
        rw [Nat.zero_add, List.getElem?_append_left (by rw [List.length_eraseIdx, if_pos (by omega)]; omega), List.getElem?_eraseIdx]
        rw [List.getElem?_eraseIdx] at hr
        by_cases a : j < i
        · rw [if_pos a] at hr; rw [if_pos a]; exact ⟨j, hr, rfl⟩
        · rw [if_neg a] at hr; rw [if_neg a]; exact ⟨j + 1, hr, rfl⟩
      obtain ⟨q, k1, k2⟩ := key
      obtain ⟨rc, g1, g2, g3, _⟩ := h4 q r k1
      exact ⟨rc, by rw [k2]; exact g1, g2.rd.keep fun p hp => hGet_set_ne (fun e => g3 (by rw [← e]; exact hp)) _⟩

theorem wrap_succ (k : Nat) (h : k ≤ 1000) : IntKind.i64.wrap ((k : Int) + 1) = ((k + 1 : Nat) : Int) := by rw [wrap_i _ (by omega) (by omega)]; omega

theorem tables_DropRow_gen (t : Tab) (i : Int) (n : Nat) (hn : 1100 ≤ n) (f : Nat) :
    ∃ c H', tables_DropRow (O0 n).Φ (O0 n).Ψ f (tD t) i [] = some (.tup [.one c, aI (dropRowF t i).2], H') ∧ RdT H' c (dropRowF t i).1 := by
  simp only [tables_DropRow, tables_Check_spec t n (by omega), Option.bind_some, xAD_d, xDI_v, xite_decide, xite_not, length_tD, dropRowF]
  by_cases h0 : chk t = 0
  · have la := chk_len h0
    simp only [h0, if_true, ne_eq, not_true, if_false, tables_place_spec i t.length (by omega) n (by omega), Option.bind_some, xAD_d, xDI_v]
    by_cases h1 : plc i t.length < 0
    · simp only [h1, if_true]
      exact ⟨_, _, rfl, .inr (.inl ⟨rfl, rfl⟩)⟩
    · obtain ⟨k, hk, hkl⟩ := plc_nat h1
      have h1' : ¬ (k : Int) < 0 := by omega
      obtain ⟨c1, H1, e1, m1, x1⟩ := tables_clone_Ψ t (by omega) (fun r hr => by have := chk_row h0 r hr; omega) [] n (by omega)
      obtain ⟨m, rfl⟩ := nat_succ (n := n) (k := 0) (by omega)
      obtain ⟨c2, H2, e2, m2⟩ := m1.del k hkl (by omega) (O0 m).Φ (O0 m).Ψ m
      have e2' : (O0 (m + 1)).Ψ i_slices_Delete_string_string [.one c1, aI k, aI ((k + 1 : Nat) : Int)] H1 = some (.one c2, H2) := by rw [slices_Delete_string_string_runH]; exact e2
      have hok : xokR (.tup [.one c2, aI 0]) = true := by have := m2.hok; simp only [xokR, List.all_cons, List.all_nil, xokC, this]; rfl
      rw [hk]
      simp only [h1', if_false, e1, xone_one, Option.bind_some, m1.rd.hok, xif_tt, wrap_succ k (by omega), e2', hok, Int.toNat_natCast]
      exact ⟨_, _, rfl, m2⟩
  · simp only [h0, if_false, ne_eq, not_false_eq_true, if_true]
    exact ⟨_, _, rfl, .inr (.inl ⟨rfl, rfl⟩)⟩
theorem tables_DropRow_spec (t : Tab) (i : Int) (n : Nat) (hn : 1101 ≤ n) : (O0 n).Φ i_tables_DropRow [aT t, aI i] = some (two (aT (dropRowF t i).1) (aI (dropRowF t i).2)) := by
  obtain ⟨m, rfl⟩ := nat_succ (n := n) (k := 0) (by omega)
  obtain ⟨c', H', h1, h2⟩ := tables_DropRow_gen t i m (by omega) m
  rw [tables_DropRow_run, h1, Option.bind_some]
  simp only [xlowR, xlowRs, h2.low 1, Option.bind_some]
  rfl

/-! The specification's. -/
theorem ref08_without_spec (t : Tab) (ht : t.length ≤ 100) (hr : ∀ r ∈ t, r.length ≤ 1000) (i : Nat) (hi : i < t.length) (n : Nat) (hn : 1101 ≤ n) : (O0 n).Φ i_ref08_without [aT t, aI i] = some (aT (t.eraseIdx i)) := by
  obtain ⟨m, rfl⟩ := nat_succ (n := n) (k := 0) (by omega)
  rw [ref08_without_run]
  obtain ⟨c3, a1, a2⟩ := (RdT.data [] t).sub 0 i (by omega) (by omega)
  obtain ⟨c4, b1, b2⟩ := (RdT.data [] t).sub (i + 1) t.length (by omega) (by omega)
  have ta : (t.take i).drop 0 = t.take i := rfl
  have tb : (t.take t.length).drop (i + 1) = t.drop (i + 1) := by rw [List.take_length]
  rw [ta] at a2
  rw [tb] at b2
  have a1' : hSub (.d (.sl (tD t))) (0 : Int) (i : Int) = some c3 := a1
  obtain ⟨c1, H1, e1, _, m1, x1⟩ := ref08_table_muΨ a2 (by simp; omega) (fun r h => hr r (List.mem_of_mem_take h)) m (by omega)
  have b2' := b2.ext x1
  obtain ⟨c2, H2, e2, _, m2, x2⟩ := ref08_table_muΨ b2' (by simp; omega) (fun r h => hr r (List.mem_of_mem_drop h)) m (by omega)
  obtain ⟨cs', q, g1, g2, g3, g4⟩ := two_copies m1 m2 x2 (by simp; omega)
  have hsz : ((t.take i).length + cs'.length) * 24 ≤ 140737488355328 := by rw [g2]; simp; omega
  have hok : xokR (.one q.1) = true := g4.hok
  have hrun : ref08_without (O0 m).Φ (O0 m).Ψ m (tD t) (i : Int) [] = some (.one q.1, q.2) := by
    simp only [ref08_without, length_tD, wrap_succ i (by omega), a1', b1, Option.bind_some, a2.hok, b2.hok, xif_tt, e1, xone_one, e2, m1.rd.len, g1, hsz, decide_true, g3, hok]
  rw [hrun, Option.bind_some]
  rw [show t.eraseIdx i = t.take i ++ t.drop (i + 1) from List.eraseIdx_eq_take_drop_succ ..]
  simp only [xlowR, g4.low 1, Option.bind_some]

theorem ref08_DropRow_spec (t : Tab) (i : Int) (n : Nat) (hn : 1201 ≤ n) : (O0 n).Φ i_ref08_DropRow [aT t, aI i] = some (two (aT (dropRowF t i).1) (aI (dropRowF t i).2)) := by
  obtain ⟨m, rfl⟩ := nat_succ (n := n) (k := 0) (by omega)
  rw [ref08_DropRow_run, ref08_DropRow, ref08_Row_spec t i m (by omega), dropRowF, rowF]
  simp only [Option.bind_some, xtup_tup, List.getElem?_cons_zero, List.getElem?_cons_succ, xAD_d, xDL_sl, xDI_v, xite_not, xite_decide, length_tD]
  by_cases h0 : chk t = 0
  · have hlen := chk_len h0
    simp only [h0, ne_eq, not_true, if_false]
    by_cases h1 : plc i t.length < 0
    · have h7 : ¬ (7 : Int) = 0 := by omega
      simp only [h1, if_true, h7, if_false]; rfl
    · obtain ⟨j, hj, hjl⟩ := plc_nat h1
      have h1' : ¬ (j : Int) < 0 := by omega
      simp only [ref08_index_spec i t.length (by omega) m (by omega), hj, h1', if_false, if_true, Option.bind_some, xAD_d, xDI_v, Int.toNat_natCast, ref08_without_spec t (by omega) (fun r hr => by have := chk_row h0 r hr; omega) j hjl m (by omega), xDL_sl]
  · simp only [h0, if_false, ne_eq, not_false_eq_true, if_true]; rfl
end Go.Av

set_option linter.unusedSimpArgs false
namespace Go.Av

theorem RwP.del {b : Bool} {H : Hp} {rc : C} {r : Row} (h : RwP (some b) H rc r) (j : Nat) (hj : j < r.length) (hl : r.length ≤ 1000) (Φ : Phi) (Ψ : Psi) (f : Nat) :
    ∃ rc' H1, slices_Delete_string_string_64 Φ Ψ f rc (j : Int) ((j + 1 : Nat) : Int) H = some (.one rc', H1) ∧ RwP none H1 rc' (r.eraseIdx j) ∧ But rc H H1 ∧ ∀ q, rc'.hid = some q → rc.hid = some q ∨ H.length ≤ q := by
  rcases h with ⟨rfl, _⟩ | ⟨k, rfl, h2⟩
  · simp at hj
  · have hkl := hGet_lt h2
    have hd := slices_Delete64_gen h2 (by simpa using hl) j (by simpa using hj) Φ Ψ f
    rw [List.length_map] at hd
    have hel : (r.eraseIdx j).length = r.length - 1 := by rw [List.length_eraseIdx, if_pos hj]
    refine ⟨_, _, hd, .inr ⟨k, _, by rw [hel], hGet_set_self hkl _, ?_, fun q s hq => ?_⟩, ⟨by simp, fun q _ hq => hGet_set_ne (fun e => hq (by rw [e]; rfl)) _⟩, fun q hq => .inl hq⟩
    · simp [List.length_eraseIdx, hj]
    · have hql := (List.getElem?_eq_some_iff.1 hq).1
      show ((r.map sC).eraseIdx j ++ [sC []])[q]? = some (sC s)
      rw [List.getElem?_append_left (by rw [List.length_eraseIdx, if_pos (by simpa using hj), List.length_map]; omega), List.getElem?_eraseIdx]
      rw [List.getElem?_eraseIdx] at hq
      split at hq
      · rename_i a; rw [if_pos a, List.getElem?_map, hq]; rfl
      · rename_i a; rw [if_neg a, List.getElem?_map, hq]; rfl

/-- The first ones changed. -/
def mixF (g : Row → Row) (t : Tab) (i : Nat) : Tab := (t.take i).map g ++ t.drop i
theorem mixF_len (g : Row → Row) (t : Tab) (i : Nat) : (mixF g t i).length = t.length := by simp [mixF]; omega
theorem mixF_zero (g : Row → Row) (t : Tab) : mixF g t 0 = t := rfl
theorem mixF_full (g : Row → Row) (t : Tab) : mixF g t t.length = t.map g := by simp [mixF]
theorem mixF_get (g : Row → Row) (t : Tab) (i : Nat) (h : i < t.length) : (mixF g t i)[i]'(by rw [mixF_len]; exact h) = t[i] := by
  simp [mixF, List.getElem_append, Nat.min_eq_left (Nat.le_of_lt h)]
theorem mixF_set (g : Row → Row) (t : Tab) (i : Nat) (h : i < t.length) : (mixF g t i).set i (g t[i]) = mixF g t (i + 1) := by
  have hl : ((t.take i).map g).length = i := by simp; omega
  unfold mixF
  rw [List.set_append, if_neg (by omega), hl, Nat.sub_self, drop_some t i h, List.set_cons_zero, List.take_succ_eq_append_getElem h, List.map_append, List.append_assoc]
  rfl

def xs1 (i : Nat) : Nat → Option Bool := fun j => if j < i then none else some true
theorem xs1_zero : xs1 0 = fun _ => some true := by funext j; simp [xs1]
theorem xs1_at (i : Nat) : xs1 i i = some true := by simp [xs1]
theorem xs1_upd (i : Nat) : upd (xs1 i) i none = xs1 (i + 1) := by
  funext j
  by_cases h : j = i
  · subst h; rw [upd_same]; simp [xs1]
  · rw [upd_ne _ _ _ _ h]
    unfold xs1
    by_cases h2 : j < i
    · rw [if_pos h2, if_pos (by omega)]
    · rw [if_neg h2, if_neg (by omega)]

def dropColF (t : Tab) (i : Int) : Tab × Int :=
  if chk t ≠ 0 then ([], chk t) else if plc i (cols t) < 0 then ([], 7) else if cols t = 1 then ([], 2) else (t.map fun r => r.eraseIdx (plc i (cols t)).toNat, 0)

theorem tables_DropColumn_gen (t : Tab) (i : Int) (n : Nat) (hn : 1100 ≤ n) (f : Nat) (hf : 1001 ≤ f) :
    ∃ c H', tables_DropColumn (O0 n).Φ (O0 n).Ψ f (tD t) i [] = some (.tup [.one c, aI (dropColF t i).2], H') ∧ RdT H' c (dropColF t i).1 := by
  simp only [tables_DropColumn, tables_Check_spec t n (by omega), Option.bind_some, xAD_d, xDI_v, xite_decide, xite_not, dropColF]
  by_cases h0 : chk t = 0
  · have la := chk_len h0
    have hrows := chk_row h0
    have hcols := chk_cols h0
    simp only [h0, if_true, ne_eq, not_true, if_false, tables_columns_spec t n (by omega), tables_place_spec i (cols t) (by omega) n (by omega), Option.bind_some, xAD_d, xDI_v]
    by_cases h1 : plc i (cols t) < 0
    · simp only [h1, if_true]
      exact ⟨_, _, rfl, .inr (.inl ⟨rfl, rfl⟩)⟩
    · by_cases hc1 : cols t = 1
      · have hc1' : (cols t : Int) = 1 := by omega
        have h1'' : ¬ plc i 1 < 0 := by rw [← hc1]; exact h1
        simp only [h1'', if_false, hc1, hc1', if_true]
        exact ⟨_, _, rfl, .inr (.inl ⟨rfl, rfl⟩)⟩
      · have hc1' : ¬ (cols t : Int) = 1 := by omega
        obtain ⟨k, hk, hkl⟩ := plc_nat h1
        have h1' : ¬ (k : Int) < 0 := by omega
        obtain ⟨c, H1, e1, m1, x1⟩ := tables_clone_Ψ t (by omega) (fun r hr => by have := hrows r hr; omega) [] n (by omega)
        rw [hk]
        simp only [h1', if_false, hc1, hc1', e1, xone_one, Option.bind_some, m1.rd.len, m1.rd.hok, xif_tt, Int.toNat_natCast]
        obtain ⟨m, rfl⟩ := nat_succ (n := n) (k := 0) (by omega)
        have key := iter_ex (R := A × Hp) t.length (fun q (x : Hp × Int × C × Int × Int × Unit) => ∃ H1, x = (H1, (k : Int), c, (t.length : Int), (q : Int), ()) ∧ MuT 0 (xs1 q) H1 c (mixF (fun r => r.eraseIdx k) t q)) (fun p => ∃ H', p = (.tup [.one c, aI 0], H') ∧ RdT H' c (t.map fun r => r.eraseIdx k))
          (F := fun (x : Hp × Int × C × Int × Int × Unit) (rec : (Hp × Int × C × Int × Int × Unit) → Option (A × Hp)) => tables_DropColumn_l0 (O0 (m + 1)).Φ (O0 (m + 1)).Ψ f (fun H18 i19 out20 i21 i22 => rec (H18, i19, out20, i21, i22, ())) x.1 x.2.1 x.2.2.1 x.2.2.2.1 x.2.2.2.2.1)
          (fun q x rec hq hx hrec => by
            obtain ⟨H1, rfl, hm⟩ := hx
            by_cases hlt : q < t.length
            · have hw := wrap_i (q + 1) (by omega) (by omega)
              have hlt' : (q : Int) < t.length := by omega
              have hrl := hrows _ (List.getElem_mem hlt)
              obtain ⟨p, rc, a1, a2, a3, a4, a5, _⟩ := hm.at (Nat.zero_le _) q (by rw [mixF_len]; exact hlt)
              rw [mixF_get _ t q hlt, xs1_at] at a3
              obtain ⟨rc', H2, d1, d2, d3, d4⟩ := a3.del k (by omega) (by omega) (O0 m).Φ (O0 m).Ψ m
              have d1' : (O0 (m + 1)).Ψ i_slices_Delete_string_string_64 [.one rc, aI k, aI ((k + 1 : Nat) : Int)] H1 = some (.one rc', H2) := by rw [slices_Delete_string_string_64_runH]; exact d1
              obtain ⟨H3, f1, f2, _⟩ := a5 none H2 rc' _ d3 d2 d4
              rw [mixF_set (fun r => r.eraseIdx k) t q hlt, xs1_upd] at f2
              simp only [tables_DropColumn_l0, xite_decide, hlt', if_true, a1, a2, a3.rd.hok, Option.bind_some, xif_tt, wrap_succ k (by omega), d1', xone_one, f1, hm.rd.hok, hw]
              exact hrec _ hlt ⟨H3, rfl, f2⟩
            · have hlt' : ¬ (q : Int) < t.length := by omega
              obtain rfl : q = t.length := by omega
              rw [mixF_full] at hm
              have hok : xokR (.tup [.one c, aI 0]) = true := by have := hm.rd.hok; simp only [xokR, List.all_cons, List.all_nil, xokC, this]; rfl
              simp only [tables_DropColumn_l0, xite_decide, hlt', if_false, hok, xif_tt]
              exact ⟨_, rfl, H1, rfl, hm.rd⟩) f 0 (H1, (k : Int), c, (t.length : Int), (0 : Int), ()) (by omega) (by omega) ⟨H1, rfl, by rw [xs1_zero]; exact m1⟩
        obtain ⟨_, hr, H', rfl, h2⟩ := key
        exact ⟨c, H', hr, h2⟩
  · simp only [h0, if_false, ne_eq, not_false_eq_true, if_true]
    exact ⟨_, _, rfl, .inr (.inl ⟨rfl, rfl⟩)⟩
theorem tables_DropColumn_spec (t : Tab) (i : Int) (n : Nat) (hn : 1101 ≤ n) : (O0 n).Φ i_tables_DropColumn [aT t, aI i] = some (two (aT (dropColF t i).1) (aI (dropColF t i).2)) := by
  obtain ⟨m, rfl⟩ := nat_succ (n := n) (k := 0) (by omega)
  obtain ⟨c', H', h1, h2⟩ := tables_DropColumn_gen t i m (by omega) m (by omega)
  rw [tables_DropColumn_run, h1, Option.bind_some]
  simp only [xlowR, xlowRs, h2.low 1, Option.bind_some]
  rfl

/-! The specification's: by way of the columns. -/
theorem trF_range {t : Tab} (h : chk t = 0) : trF t = (List.range (cols t)).map (colF t) := by simp [trF, h]
theorem trF_len {t : Tab} (h : chk t = 0) : (trF t).length = cols t := by simp [trF_range h]
/-- A table put together from the columns of another, some of them, in any order. -/
theorem tr_some {t : Tab} (h : chk t = 0) (l : List Nat) (hl : ∀ k ∈ l, k < cols t) (h1 : 1 ≤ l.length) (h8 : l.length ≤ 8) (ht : 1 ≤ t.length) :
    chk (l.map (colF t)) = 0 ∧ trF (l.map (colF t)) = t.map fun r => l.map fun k => r.getD k [] := by
  have la := chk_len h
  have hrows : ∀ r ∈ l.map (colF t), 1 ≤ r.length ∧ r.length ≤ 8 ∧ r.length = t.length ∧ ∀ s ∈ r, chkS s = 0 := fun r hr => by
    obtain ⟨k, hk, rfl⟩ := List.mem_map.1 hr
    exact ⟨by simp [colF]; omega, by simp [colF]; omega, by simp [colF], colF_ok h k (hl k hk)⟩
  have c0 : chk (l.map (colF t)) = 0 := chk_of (by simpa using h8) hrows
  refine ⟨c0, ?_⟩
  have hc : cols (l.map (colF t)) = t.length := by rw [cols_get _ (by simp; omega)]; exact (hrows _ (List.getElem_mem _)).2.2.1
  rw [trF_range c0, hc]
  apply List.ext_getElem?
  intro i
  rw [List.getElem?_map, List.getElem?_map]
  rcases Nat.lt_or_ge i t.length with hi | hi
  · rw [List.getElem?_range hi, List.getElem?_eq_getElem hi]
    simp only [Option.map_some]
    congr 1
    simp only [colF, List.map_map]
    apply List.map_congr_left
    intro k _
    exact colF_getD t k i hi
  · rw [List.getElem?_eq_none (by simpa using hi), List.getElem?_eq_none hi]; rfl
theorem erase_map {α β : Type} (f : α → β) (l : List α) (k : Nat) : (l.map f).eraseIdx k = (l.eraseIdx k).map f := by
  apply List.ext_getElem?
  intro j
  simp only [List.getElem?_eraseIdx, List.getElem?_map]
  split <;> rfl
theorem drop_cols {t : Tab} (h : chk t = 0) (k : Nat) (hk : k < cols t) (h1 : cols t ≠ 1) (ht : 1 ≤ t.length) : trF ((trF t).eraseIdx k) = t.map fun r => r.eraseIdx k := by
  rw [trF_range h, erase_map]
  have hel : ((List.range (cols t)).eraseIdx k).length = cols t - 1 := by rw [List.length_eraseIdx, if_pos (by simpa using hk)]; simp
  have := chk_cols h
  rw [(tr_some h ((List.range (cols t)).eraseIdx k) (fun j hj => List.mem_range.1 (List.mem_of_mem_eraseIdx hj)) (by omega) (by omega) ht).2]
  apply List.map_congr_left
  intro r hr
  rw [← erase_map]
  congr 1
  have := range_getD r
  rw [(chk_row h r hr).2.2.1] at this
  exact this

theorem ref08_DropColumn_spec (t : Tab) (i : Int) (n : Nat) (hn : 1201 ≤ n) : (O0 n).Φ i_ref08_DropColumn [aT t, aI i] = some (two (aT (dropColF t i).1) (aI (dropColF t i).2)) := by
  obtain ⟨m, rfl⟩ := nat_succ (n := n) (k := 0) (by omega)
  rw [ref08_DropColumn_run, ref08_DropColumn, ref08_Check_spec t m (by omega), dropColF]
  simp only [Option.bind_some, xAD_d, xDI_v, xite_not, xite_decide]
  by_cases h0 : chk t = 0
  · have hlen := chk_len h0
    have hcols := chk_cols h0
    simp only [h0, ne_eq, not_true, if_false, if_true, ref08_Columns_spec t m (by omega), ref08_index_spec i (cols t) (by omega) m (by omega), Option.bind_some, xAD_d, xDI_v]
    by_cases h1 : plc i (cols t) < 0
    · simp only [h1, if_true]; rfl
    · obtain ⟨k, hk, hkl⟩ := plc_nat h1
      have h1' : ¬ (k : Int) < 0 := by omega
      rw [hk]
      simp only [h1', if_false, Int.toNat_natCast]
      by_cases hc1 : cols t = 1
      · have hc1' : (cols t : Int) = 1 := by omega
        simp only [hc1, hc1', if_true]; rfl
      · have hc1' : ¬ (cols t : Int) = 1 := by omega
        have htl : 1 ≤ t.length := by
          cases t with
          | nil => simp [cols] at hkl
          | cons r t => simp
        have e1 := ref08_Transpose_spec t m (by omega)
        have e2 := ref08_without_spec (trF t) (by rw [trF_len h0]; omega) (trF_shp t).2 k (by rw [trF_len h0]; exact hkl) m (by omega)
        have e3 := ref08_Transpose_spec ((trF t).eraseIdx k) m (by omega)
        rw [drop_cols h0 k hkl hc1 htl] at e3
        simp only [hc1, hc1', if_false, e1, e2, e3, Option.bind_some, xAD_d, xDL_sl]
  · simp only [h0, if_false, ne_eq, not_false_eq_true, if_true]; rfl

theorem dropRowF_shp (t : Tab) (i : Int) : (dropRowF t i).1.length ≤ 1000 ∧ ∀ r ∈ (dropRowF t i).1, r.length ≤ 1000 := by
  unfold dropRowF
  by_cases h0 : chk t = 0
  · have := chk_len h0
    simp only [h0, ne_eq, not_true, if_false]
    split
    · simp
    · refine ⟨?_, fun r hr => ?_⟩
      · have := List.length_eraseIdx_le t (plc i t.length).toNat
        show (t.eraseIdx _).length ≤ 1000
        omega
      · have := chk_row h0 r (List.mem_of_mem_eraseIdx hr); omega
  · simp [h0]
theorem dropColF_shp (t : Tab) (i : Int) : (dropColF t i).1.length ≤ 1000 ∧ ∀ r ∈ (dropColF t i).1, r.length ≤ 1000 := by
  unfold dropColF
  by_cases h0 : chk t = 0
  · have := chk_len h0
    simp only [h0, ne_eq, not_true, if_false]
    split
    · simp
    · split
      · simp
      · refine ⟨by simp; omega, fun r hr => ?_⟩
        obtain ⟨q, hq, rfl⟩ := List.mem_map.1 hr
        have := chk_row h0 q hq
        have := List.length_eraseIdx_le q (plc i (cols t)).toNat
        omega
  · simp [h0]
end Go.Av
