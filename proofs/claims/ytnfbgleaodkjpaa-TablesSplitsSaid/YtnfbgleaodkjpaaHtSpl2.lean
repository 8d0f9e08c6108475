/-
  Cells divided in two: the search; a part of a row replaced.
-/
import Derived.Test.YtnfbgleaodkjpaaHtUnp
import Derived.Test.YtnfbgleaodkjpaaHtDropC
import Derived.Lib.IndexMore
set_option linter.all false
set_option linter.unusedSimpArgs false
namespace Go.Av

theorem index_spec77 (s by_ : Txt) (h : s.length ≤ 1000) (n : Nat) : (O0 n).Φ i_internal_stringslite_Index [aS s, aS by_] = some (aI (Lib.index s by_)) := by
  have : (if s.length < 4294967281 then some (aI (Lib.index s by_)) else none) = some (aI (Lib.index s by_)) := if_pos (by omega)
  cases n <;> exact this
theorem xSubS_at (s : Txt) (a b : Nat) (h1 : a ≤ b) (h2 : b ≤ s.length) : xSubS s (a : Int) (b : Int) = some ((s.take b).drop a) := by
  unfold xSubS; rw [if_pos (by omega), Int.toNat_natCast, Int.toNat_natCast]
theorem xSubS_0 (s : Txt) (b : Nat) (h2 : b ≤ s.length) : xSubS s (0 : Int) (b : Int) = some (s.take b) := xSubS_at s 0 b (by omega) h2
theorem xSubS_end (s : Txt) (a : Nat) (h2 : a ≤ s.length) : xSubS s (a : Int) (s.length : Int) = some (s.drop a) := by rw [xSubS_at s a s.length h2 (Nat.le_refl _), List.take_length]

theorem strings_Cut_spec (s by_ : Txt) (h : s.length ≤ 1000) (hb : by_.length ≤ 1000000) (n : Nat) (hn : 2 ≤ n) : (O0 n).Φ i_strings_Cut [aS s, aS by_] = some (.tup [aS (Lib.cut s by_).1, aS (Lib.cut s by_).2.1, aB (Lib.cut s by_).2.2]) := by
  obtain ⟨m, rfl⟩ : ∃ m, n = m + 2 := ⟨n - 2, by omega⟩
  have e1 : (O0 (m + 1)).Φ i_internal_stringslite_Cut [aS s, aS by_] = some (.tup [aS (Lib.cut s by_).1, aS (Lib.cut s by_).2.1, aB (Lib.cut s by_).2.2]) := by
    rw [internal_stringslite_Cut_run]
    simp only [internal_stringslite_Cut, index_spec77 s by_ h m, Option.bind_some, xAD_d, xDI_v, xite_decide, Lib.cut]
    by_cases h0 : 0 ≤ Lib.index s by_
    · have hr := Lib.index_room s by_ h0
      obtain ⟨i, hi⟩ : ∃ i : Nat, Lib.index s by_ = i := ⟨(Lib.index s by_).toNat, by omega⟩
      rw [hi] at h0 hr ⊢
      have hw : IntKind.i64.wrap ((i : Int) + (by_.length : Int)) = ((i + by_.length : Nat) : Int) := by rw [wrap_i _ (by omega) (by omega)]; omega
      simp only [h0, if_true, xSubS_0 s i (by omega), hw, xSubS_end s (i + by_.length) (by omega), Option.bind_some, Int.toNat_natCast]
    · simp only [h0, if_false]
  rw [strings_Cut_run]
  simp only [strings_Cut, e1, Option.bind_some, xtup_tup, List.getElem?_cons_zero, List.getElem?_cons_succ, xAD_d, xDS_s, xDB_v]
theorem occ_at (s by_ : Txt) (i : Nat) (h : i + by_.length ≤ s.length) : Lib.occAt s by_ i = true ↔ (s.take (i + by_.length)).drop i = by_ := by
  unfold Lib.occAt
  rw [List.isPrefixOf_iff_prefix, List.drop_take, show i + by_.length - i = by_.length by omega, List.prefix_iff_eq_take]
  constructor
  · intro h; exact h.symm
  · intro h; exact h.symm
theorem ref08_cut_spec (s by_ : Txt) (h : s.length ≤ 1000) (hb : by_.length ≤ 1000000) (n : Nat) (hn : 1010 ≤ n) : (O0 n).Φ i_ref08_cut [aS s, aS by_] = some (.tup [aS (Lib.cut s by_).1, aS (Lib.cut s by_).2.1]) := by
  obtain ⟨m, rfl⟩ := nat_succ (n := n) (k := 0) (by omega)
  rw [ref08_cut_run, ref08_cut]
  have hw : ∀ k : Nat, k ≤ 2000 → IntKind.i64.wrap ((k : Int) + (by_.length : Int)) = ((k + by_.length : Nat) : Int) := fun k hk => by rw [wrap_i _ (by omega) (by omega)]; omega
  rcases Lib.index_spec s by_ with ⟨h1, h2⟩ | ⟨i, h1, h2, h3, h4⟩
  · have hc : Lib.cut s by_ = (s, [], false) := by unfold Lib.cut; rw [if_neg (by omega)]
    rw [hc]
    refine iter_nat (s.length + 1) (fun k => (s, by_, (k : Int), ())) (fun _ => A.tup [aS s, aS []]) (fun k rec hk hrec => ?_) m 0 (by omega) (by omega)
    by_cases hlt : k + by_.length ≤ s.length
    · have hlt' : ((k + by_.length : Nat) : Int) ≤ (s.length : Int) := by omega
      have hwk := wrap_i (k + 1) (by omega) (by omega)
      have hne : ¬ (s.take (k + by_.length)).drop k = by_ := fun e => by
        have := h2 k (by omega)
        rw [(occ_at s by_ k hlt).2 e] at this; cases this
      simp only [ref08_cut_l0, hw k (by omega), xite_decide, hlt', if_true, xSubS_at s k (k + by_.length) (by omega) hlt, Option.bind_some, hne, if_false, hwk]
      exact hrec (by omega)
    · have hlt' : ¬ ((k + by_.length : Nat) : Int) ≤ (s.length : Int) := by omega
      simp only [ref08_cut_l0, hw k (by omega), xite_decide, hlt', if_false]
  · have hroom := Lib.index_room s by_ (by omega)
    rw [h1] at hroom
    have hr : i + by_.length ≤ s.length := by omega
    have hc : Lib.cut s by_ = (s.take i, s.drop (i + by_.length), true) := by unfold Lib.cut; rw [if_pos (by omega), h1, Int.toNat_natCast]
    rw [hc]
    refine iter_nat i (fun k => (s, by_, (k : Int), ())) (fun _ => A.tup [aS (s.take i), aS (s.drop (i + by_.length))]) (fun k rec hk hrec => ?_) m 0 (by omega) (by omega)
    have hlt' : ((k + by_.length : Nat) : Int) ≤ (s.length : Int) := by omega
    have hwk := wrap_i (k + 1) (by omega) (by omega)
    by_cases hki : k = i
    · subst hki
      have he := (occ_at s by_ k hr).1 h3
      simp only [ref08_cut_l0, hw k (by omega), xite_decide, hlt', if_true, xSubS_at s k (k + by_.length) (by omega) hr, Option.bind_some, he, xSubS_0 s k (by omega), xSubS_end s (k + by_.length) hr]
    · have hne : ¬ (s.take (k + by_.length)).drop k = by_ := fun e => by
        have := h4 k (by omega)
        rw [(occ_at s by_ k (by omega)).2 e] at this; cases this
      simp only [ref08_cut_l0, hw k (by omega), xite_decide, hlt', if_true, xSubS_at s k (k + by_.length) (by omega) (by omega), Option.bind_some, hne, if_false, hwk]
      exact hrec (by omega)

theorem rpl_mid {α : Type} (A B D R : List α) (k : Nat) (hA : A.length = k) (hR : R.length = B.length + D.length) : rpl (rpl (A ++ R) k B) (k + B.length) D = A ++ B ++ D := by
  have e1 : rpl (A ++ R) k B = A ++ B ++ R.drop B.length := by
    unfold rpl; rw [List.take_left' hA, ← List.drop_drop, List.drop_left' hA]
  rw [e1]
  unfold rpl
  have h2 : (A ++ B).length = k + B.length := by simp [hA]
  rw [List.take_left' h2, ← List.drop_drop, List.drop_left' h2, List.drop_of_length_le (by simp; omega), List.append_nil]

/-! A row with one cell replaced by two. -/
def splR (r : Row) (k : Nat) (a b : Txt) : Row := r.take k ++ [a, b] ++ r.drop (k + 1)
theorem splR_len (r : Row) (k : Nat) (a b : Txt) (h : k < r.length) : (splR r k a b).length = r.length + 1 := by simp [splR]; omega
theorem hLen_hs (k a b : Nat) : hLen (.hs k a b) = some b := rfl
theorem hCells_get {H : Hp} {k : Nat} {cs : List C} {b : Bool} (h : hGet H k = some ⟨cs, b⟩) (a n : Nat) (hn : a + n ≤ cs.length) : hCells H (.hs k a n) = some ((cs.drop a).take n) := by
  simp only [hCells, h, Option.bind_some]; rw [if_pos hn]
theorem replace_Ψ {H : Hp} {rc : C} {r : Row} (h : RwP (some true) H rc r) (k : Nat) (hk : k < r.length) (hl : r.length ≤ 8) (a b : Txt) (n : Nat) (hn : 1 ≤ n) :
    ∃ rc' H', (O0 n).Ψ i_slices_Replace_string_string [.one rc, aI k, aI ((k + 1 : Nat) : Int), .one (.full [[.s a], [.s b]])] H = some (.one rc', H') ∧ RwP (some false) H' rc' (splR r k a b) ∧ But rc H H' ∧ ∀ q, rc'.hid = some q → rc.hid = some q ∨ H.length ≤ q := by
  obtain ⟨m, rfl⟩ := nat_succ (n := n) (k := 0) (by omega)
  rw [slices_Replace_string_string_runH]
  rcases h with ⟨rfl, _⟩ | ⟨q, rfl, h2⟩
  · simp at hk
  · have hql := hGet_lt h2
    have hcl : (r.map sC).length = r.length := List.length_map ..
    have hv : ∀ H : Hp, hCells H (.full [[.s a], [.s b]]) = some [sC a, sC b] := fun H => hCells_full H [a, b]
    have hvl : hLen (.full [[.s a], [.s b]]) = some 2 := rfl
    have hne : ¬ ((k : Int) = ((k + 1 : Nat) : Int)) := by omega
    have hs0 : hSub (.hs q 0 r.length) (k : Int) ((k + 1 : Nat) : Int) = some (.hs q (0 + k) (k + 1 - k)) := hSub_hs q 0 r.length k (k + 1) (by omega) (by omega)
    have hs1 : hSub (.hs q 0 r.length) (0 : Int) (k : Int) = some (.hs q 0 k) := hSub_hs q 0 r.length 0 k (by omega) (by omega)
    have hlast : r.length = k + 1 → splR r k a b = r.take k ++ [a, b] := fun e => by unfold splR; rw [List.drop_of_length_le (by omega), List.append_nil]
    by_cases he : r.length = k + 1
    · have he' : ((k + 1 : Nat) : Int) = (r.length : Int) := by omega
      have hap : hApp H (.hs q 0 k) [sC a, sC b] = some (.hs H.length 0 (k + 2), H ++ [some ⟨(splR r k a b).map sC, false⟩]) := by
        simp only [hApp, h2, Option.bind_some]
        rw [if_pos (by omega), if_neg (by simp; omega), if_pos trivial]
        congr 3
        rw [hlast he, List.map_append, List.map_take]
        rfl
      have hsz : (k + [sC a, sC b].length) * 16 ≤ 140737488355328 := sz_row k (by omega)
      have hlt : ¬ (((k + 2 : Nat) : Int) < (r.length : Int)) := by omega
      have hok : xokR (.one (.hs H.length 0 (k + 2))) = true := rfl
      refine ⟨.hs H.length 0 (k + 2), H ++ [some ⟨(splR r k a b).map sC, false⟩], ?_, .inr ⟨H.length, by rw [splR_len r k a b hk]; congr 1; omega, hGet_push H _⟩, ⟨by simp, fun j hj _ => hGet_push_lt hj _⟩, fun j hj => by simp only [C.hid, Option.some.injEq] at hj; right; omega⟩
      rw [slices_Replace_string_string, hLen_hs, Option.bind_some, hs0, Option.bind_some, xite_decide, if_neg hne, Option.bind_some, xite_decide, if_pos he', Option.bind_some]
      simp only [hLen_hs, Option.bind_some, xite_decide, hs1, hv, hsz, decide_true, xif_tt, hap, hlt, if_false, hok]
    · have he' : ¬ ((k + 1 : Nat) : Int) = (r.length : Int) := by omega
      have hs2 : hSub (.hs q 0 r.length) ((k + 1 : Nat) : Int) (r.length : Int) = some (.hs q (0 + (k + 1)) (r.length - (k + 1))) := hSub_hs q 0 r.length (k + 1) r.length (by omega) (Nat.le_refl _)
      rw [Nat.zero_add] at hs2
      have hcap : hCap H (.hs q 0 r.length) = some r.length := by
        simp only [hCap, h2, Option.bind_some]
        rw [if_pos ⟨trivial, by omega⟩, hcl]; rfl
      have hw1 : IntKind.i64.wrap (((k : Nat) : Int) + ((2 : Nat) : Int)) = ((k + 2 : Nat) : Int) := by rw [wrap_i _ (by omega) (by omega)]; omega
      have hw2 : IntKind.i64.wrap (((k + 2 : Nat) : Int) + ((r.length - (k + 1) : Nat) : Int)) = ((r.length + 1 : Nat) : Int) := by rw [wrap_i _ (by omega) (by omega)]; omega
      have hw3 : IntKind.i64.wrap (((r.length + 1 : Nat) : Int) - (k : Int)) = ((r.length + 1 - k : Nat) : Int) := by rw [wrap_i _ (by omega) (by omega)]; omega
      have hlt : ((r.length : Nat) : Int) < ((r.length + 1 : Nat) : Int) := by omega
      have hnn : (decide ((0 : Int) ≤ ((r.length + 1 - k : Nat) : Int)) && decide ((k + (r.length + 1 - k)) * 16 ≤ 140737488355328)) = true := by simp; omega
      obtain ⟨B0, hB⟩ : ∃ B0 : List C, (r.take k).map sC ++ List.replicate (r.length + 1 - k) (sC []) = B0 := ⟨_, rfl⟩
      have hL1 : B0.length = r.length + 1 := by rw [← hB]; simp; omega
      have hfin : rpl (rpl B0 k [sC a, sC b]) (k + 2) ((r.drop (k + 1)).map sC) = (splR r k a b).map sC := by
        rw [← hB]
        have := rpl_mid ((r.take k).map sC) [sC a, sC b] ((r.drop (k + 1)).map sC) (List.replicate (r.length + 1 - k) (sC [])) k (by simp; omega) (by simp; omega)
        refine Eq.trans this ?_
        simp [splR]
      have hz : hAppZ H (.hs q 0 k) (r.length + 1 - k) (sC []) = some (.hs H.length 0 (r.length + 1), H ++ [some ⟨B0, false⟩]) := by
        simp only [hAppZ, h2, Option.bind_some]
        rw [if_pos ⟨trivial, by omega, by omega⟩, List.drop_zero, ← List.map_take, hB, show k + (r.length + 1 - k) = r.length + 1 by omega]
      have hg0 := hGet_push H (⟨B0, false⟩ : HO)
      have hkl : H.length < (H ++ [some (⟨B0, false⟩ : HO)]).length := by simp
      have hq1 : hSub (.hs H.length 0 (r.length + 1)) (k : Int) ((r.length + 1 : Nat) : Int) = some (.hs H.length (0 + k) (r.length + 1 - k)) := hSub_hs H.length 0 (r.length + 1) k (r.length + 1) (by omega) (Nat.le_refl _)
      have hq2 : hSub (.hs H.length 0 (r.length + 1)) ((k + 2 : Nat) : Int) ((r.length + 1 : Nat) : Int) = some (.hs H.length (0 + (k + 2)) (r.length + 1 - (k + 2))) := hSub_hs H.length 0 (r.length + 1) (k + 2) (r.length + 1) (by omega) (Nat.le_refl _)
      rw [Nat.zero_add] at hq1 hq2
      have hm2 : min [sC a, sC b].length (r.length + 1 - k) = 2 := by rw [show [sC a, sC b].length = 2 from rfl]; omega
      have c1 : hCopy (H ++ [some (⟨B0, false⟩ : HO)]) (.hs H.length k (r.length + 1 - k)) [sC a, sC b] = some (2, (H ++ [some (⟨B0, false⟩ : HO)]).set H.length (some ⟨rpl B0 k [sC a, sC b], false⟩)) := by
        simp only [hCopy, hg0, Option.bind_some]
        rw [if_pos (by rw [hL1]; omega), hm2]
        rfl
      have hg1 := hGet_set_self hkl (some (⟨rpl B0 k [sC a, sC b], false⟩ : HO))
      have hL2 : (rpl B0 k [sC a, sC b]).length = r.length + 1 := by rw [length_rpl _ _ _ (by rw [hL1]; simp; omega), hL1]
      have hold : hGet ((H ++ [some (⟨B0, false⟩ : HO)]).set H.length (some ⟨rpl B0 k [sC a, sC b], false⟩)) q = some ⟨r.map sC, true⟩ := by
        rw [hGet_set_ne (by omega), hGet_push_lt hql]; exact h2
      have hcd : hCells ((H ++ [some (⟨B0, false⟩ : HO)]).set H.length (some ⟨rpl B0 k [sC a, sC b], false⟩)) (.hs q (k + 1) (r.length - (k + 1))) = some ((r.drop (k + 1)).map sC) := by
        rw [hCells_get hold _ _ (by omega), ← List.map_drop, List.take_of_length_le (by simp)]
      have c2 : hCopy ((H ++ [some (⟨B0, false⟩ : HO)]).set H.length (some ⟨rpl B0 k [sC a, sC b], false⟩)) (.hs H.length (k + 2) (r.length + 1 - (k + 2))) ((r.drop (k + 1)).map sC) =
          some (r.length - (k + 1), H ++ [some ⟨(splR r k a b).map sC, false⟩]) := by
        simp only [hCopy, hg1, Option.bind_some]
        have hmin : min ((r.drop (k + 1)).map sC).length (r.length + 1 - (k + 2)) = r.length - (k + 1) := by rw [List.length_map, List.length_drop]; omega
        rw [if_pos (by rw [hL2]; omega), hmin, List.take_of_length_le (by simp), hfin, List.set_set]
        congr 2
        rw [List.set_append, if_neg (by omega), Nat.sub_self]
        rfl
      have hok : xokR (.one (.hs H.length 0 (r.length + 1))) = true := rfl
      refine ⟨.hs H.length 0 (r.length + 1), H ++ [some ⟨(splR r k a b).map sC, false⟩], ?_, .inr ⟨H.length, by rw [splR_len r k a b hk], hGet_push H _⟩, ⟨by simp, fun j hj _ => hGet_push_lt hj _⟩, fun j hj => by simp only [C.hid, Option.some.injEq] at hj; right; omega⟩
      simp only [slices_Replace_string_string, hLen_hs, hs0, Option.bind_some, xite_decide, hne, if_false, he', hs1, hs2, hcap, hvl, hw1, hw2, hlt, if_true, hw3, Int.toNat_natCast, hnn, xif_tt, hz, hq1, hv, c1, hq2, hcd, c2, hok]
end Go.Av

set_option linter.unusedSimpArgs false
namespace Go.Av

def splG (k : Nat) (by_ : Txt) (r : Row) : Row := splR r k (Lib.cut (r.getD k []) by_).1 (Lib.cut (r.getD k []) by_).2.1
def splF (t : Tab) (i : Int) (by_ : Txt) : Tab × Int :=
  if chk t ≠ 0 then ([], chk t) else if plc i (cols t) < 0 then ([], 7) else if by_ = [] then ([], 4) else if cols t = 8 then ([], 2) else (t.map (splG (plc i (cols t)).toNat by_), 0)

def xs2 (i : Nat) : Nat → Option Bool := fun j => if j < i then some false else some true
theorem xs2_zero : xs2 0 = fun _ => some true := by funext j; simp [xs2]
theorem xs2_at (i : Nat) : xs2 i i = some true := by simp [xs2]
theorem xs2_upd (i : Nat) : upd (xs2 i) i (some false) = xs2 (i + 1) := by
  funext j
  by_cases h : j = i
  · subst h; rw [upd_same]; simp [xs2]
  · rw [upd_ne _ _ _ _ h]
    unfold xs2
    by_cases h2 : j < i
    · rw [if_pos h2, if_pos (by omega)]
    · rw [if_neg h2, if_neg (by omega)]
theorem chkS_len {s : Txt} (h : chkS s = 0) : s.length ≤ 64 := by
  unfold chkS at h
  split at h
  · cases h
  · omega

theorem tables_Split_gen (t : Tab) (i : Int) (by_ : Txt) (hby : by_.length ≤ 100) (n : Nat) (hn : 1100 ≤ n) (f : Nat) (hf : 1001 ≤ f) :
    ∃ c H', tables_Split (O0 n).Φ (O0 n).Ψ f (tD t) i by_ [] = some (.tup [.one c, aI (splF t i by_).2], H') ∧ RdT H' c (splF t i by_).1 := by
  simp only [tables_Split, tables_Check_spec t n (by omega), Option.bind_some, xAD_d, xDI_v, xite_decide, xite_not, splF]
  by_cases h0 : chk t = 0
  · have la := chk_len h0
    have hrows := chk_row h0
    have hcols := chk_cols h0
    simp only [h0, if_true, ne_eq, not_true, if_false, tables_columns_spec t n (by omega), tables_place_spec i (cols t) (by omega) n (by omega), Option.bind_some, xAD_d, xDI_v]
    by_cases h1 : plc i (cols t) < 0
    · simp only [h1, if_true]
      exact ⟨_, _, rfl, .inr (.inl ⟨rfl, rfl⟩)⟩
    obtain ⟨k, hk, hkl⟩ := plc_nat h1
    have h1' : ¬ (k : Int) < 0 := by omega
    rw [hk]
    simp only [h1', if_false]
    by_cases hb : by_ = []
    · simp only [hb, if_true]
      exact ⟨_, _, rfl, .inr (.inl ⟨rfl, rfl⟩)⟩
    by_cases hc8 : cols t = 8
    · have hc8' : (cols t : Int) = 8 := by omega
      simp only [hb, if_false, hc8, hc8', if_true]
      exact ⟨_, _, rfl, .inr (.inl ⟨rfl, rfl⟩)⟩
    have hc8' : ¬ (cols t : Int) = 8 := by omega
    obtain ⟨c, H1, e1, m1, x1⟩ := tables_clone_Ψ t (by omega) (fun r hr => by have := hrows r hr; omega) [] n (by omega)
    simp only [hb, hc8, hc8', if_false, e1, xone_one, Option.bind_some, m1.rd.len, m1.rd.hok, xif_tt, Int.toNat_natCast]
    have key := iter_ex (R := A × Hp) t.length (fun q (x : Hp × Int × List UInt8 × C × C × Int × Int × Unit) => ∃ H1, x = (H1, (k : Int), by_, c, c, (t.length : Int), (q : Int), ()) ∧ MuT 0 (xs2 q) H1 c (mixF (splG k by_) t q)) (fun p => ∃ H', p = (.tup [.one c, aI 0], H') ∧ RdT H' c (t.map (splG k by_)))
      (F := fun (x : Hp × Int × List UInt8 × C × C × Int × Int × Unit) (rec : (Hp × Int × List UInt8 × C × C × Int × Int × Unit) → Option (A × Hp)) => tables_Split_l0 (O0 n).Φ (O0 n).Ψ f (fun H19 column20 by21 out22 c23 i24 i25 => rec (H19, column20, by21, out22, c23, i24, i25, ())) x.1 x.2.1 x.2.2.1 x.2.2.2.1 x.2.2.2.2.1 x.2.2.2.2.2.1 x.2.2.2.2.2.2.1)
      (fun q x rec hq hx hrec => by
        obtain ⟨H1, rfl, hm⟩ := hx
        by_cases hlt : q < t.length
        · have hw := wrap_i (q + 1) (by omega) (by omega)
          have hlt' : (q : Int) < t.length := by omega
          have hrl := hrows _ (List.getElem_mem hlt)
          obtain ⟨p, rc, a1, a2, a3, a4, a5, _⟩ := hm.at (Nat.zero_le _) q (by rw [mixF_len]; exact hlt)
          rw [mixF_get _ t q hlt, xs2_at] at a3
          have hset := mixF_set (splG k by_) t q hlt
          have hsl : (t[q].getD k []).length ≤ 64 := chkS_len (chkR_mem hrl.2.2.2 _ (getD_mem t[q] k (by omega)))
          have hkr : k < t[q].length := by omega
          have hgd : t[q].getD k [] = t[q][k] := by simp [hkr]
          obtain ⟨p2, b1, b2⟩ := a3.rd.at k hkr
          rw [← hgd] at b2
          have hcut := strings_Cut_spec (t[q].getD k []) by_ (by omega) (by omega) n (by omega)
          obtain ⟨rc', H2, d1, d2, d3, d4⟩ := replace_Ψ a3 k hkr (by omega) (Lib.cut (t[q].getD k []) by_).1 (Lib.cut (t[q].getD k []) by_).2.1 n (by omega)
          obtain ⟨H3, f1, f2, _⟩ := a5 (some false) H2 rc' _ d3 d2 d4
          rw [show splR t[q] k (Lib.cut (t[q].getD k []) by_).1 (Lib.cut (t[q].getD k []) by_).2.1 = splG k by_ t[q] from rfl, hset, xs2_upd] at f2
          simp only [tables_Split_l0, xite_decide, hlt', if_true, a1, a2, Option.bind_some, b1, b2, xS_s, hcut, xtup_tup, List.getElem?_cons_zero, List.getElem?_cons_succ, xAD_d, xDS_s, xDB_v, a3.rd.hok, xif_tt, wrap_succ k (by omega), d1, xone_one, f1, hm.rd.hok, hw]
          exact hrec _ hlt ⟨H3, rfl, f2⟩
        · have hlt' : ¬ (q : Int) < t.length := by omega
          obtain rfl : q = t.length := by omega
          rw [mixF_full] at hm
          have hok : xokR (.tup [.one c, aI 0]) = true := by have := hm.rd.hok; simp only [xokR, List.all_cons, List.all_nil, xokC, this]; rfl
          simp only [tables_Split_l0, xite_decide, hlt', if_false, hok, xif_tt]
          exact ⟨_, rfl, H1, rfl, hm.rd⟩) f 0 (H1, (k : Int), by_, c, c, (t.length : Int), (0 : Int), ()) (by omega) (by omega) ⟨H1, rfl, by rw [xs2_zero]; exact m1⟩
    obtain ⟨_, hr, H', rfl, h2⟩ := key
    exact ⟨c, H', hr, h2⟩
  · simp only [h0, if_false, ne_eq, not_false_eq_true, if_true]
    exact ⟨_, _, rfl, .inr (.inl ⟨rfl, rfl⟩)⟩
theorem tables_Split_spec (t : Tab) (i : Int) (by_ : Txt) (hby : by_.length ≤ 100) (n : Nat) (hn : 1101 ≤ n) : (O0 n).Φ i_tables_Split [aT t, aI i, aS by_] = some (two (aT (splF t i by_).1) (aI (splF t i by_).2)) := by
  obtain ⟨m, rfl⟩ := nat_succ (n := n) (k := 0) (by omega)
  obtain ⟨c', H', h1, h2⟩ := tables_Split_gen t i by_ hby m (by omega) m (by omega)
  rw [tables_Split_run, h1, Option.bind_some]
  simp only [xlowR, xlowRs, h2.low 1, Option.bind_some]
  rfl

/-! The specification's. -/
theorem hSub_rDend (r : Row) (k : Nat) (hk : k ≤ r.length) : hSub (.d (.sl (rD r))) (k : Int) (r.length : Int) = some (.d (.sl (rD (r.drop k)))) := by
  simp only [hSub]
  rw [if_pos ⟨fun y hy => by simp only [rD, List.mem_map] at hy; obtain ⟨s, _, rfl⟩ := hy; rfl, by omega, by omega, by simp⟩]
  have : ((r.length : Int)).toNat = (rD r).length := by simp
  rw [this, List.take_length]
  simp [rD, List.map_drop]
/-- A row made of a copy, two more and a rest, appended to a table. -/
theorem row_app3 {H : Hp} {out : C} {acc : Tab} (ho : OwT 0 H out acc) (r : Row) (a b : Txt) (z : Row) :
    ∃ c1 H1 c2 H2 c3 H3, hApp (cpH r H) (cpC r H) [sC a, sC b] = some (c1, H1) ∧ hLen c1 = some (r.length + 2) ∧ hApp H1 c1 (z.map sC) = some (c2, H2) ∧ c2.hok = true ∧ OwT 0 H2 out acc ∧ hApp (H2 ++ [some ⟨[c2], true⟩]) out [c2] = some (c3, H3) ∧ OwT 0 H3 c3 (acc ++ [r ++ [a, b] ++ z]) := by
  have hx1 : Ext H.length H (cpH r H) := cp_ext r (Nat.le_refl _)
  have hown := cp_own r H
  obtain ⟨c1, H1, d1, d2, d3⟩ := hown.app hx1.1 [a, b]
  obtain ⟨c2, H2, e1, e2, e3⟩ := d2.app d3.1 z
  have ho1 := ho.ext ((hx1.trans d3).trans e3)
  obtain ⟨c3, H3, f1, f2, _⟩ := ho1.row (Nat.zero_le _) e2.rd (fun k hk => ⟨Nat.zero_le _, fun e => by
    have := e2.hid k hk
    have := ho.rd.lt k e
    omega⟩)
  exact ⟨c1, H1, c2, H2, c3, H3, d1, by rw [d2.rd.len]; simp, e1, e2.rd.hok, ho1, f1, f2⟩

theorem sz_row2 (a b : Nat) (h : a ≤ 8) (h2 : b ≤ 8) : (a + 2 + b) * 16 ≤ 140737488355328 := by omega
theorem ref08_Split_gen (t : Tab) (i : Int) (by_ : Txt) (hby : by_.length ≤ 100) (n : Nat) (hn : 1100 ≤ n) (f : Nat) (hf : 1001 ≤ f) :
    ∃ c H', ref08_Split (O0 n).Φ (O0 n).Ψ f (tD t) i by_ [] = some (.tup [.one c, aI (splF t i by_).2], H') ∧ RdT H' c (splF t i by_).1 := by
  simp only [ref08_Split, ref08_Check_spec t n (by omega), Option.bind_some, xAD_d, xDI_v, xite_decide, xite_not, splF]
  by_cases h0 : chk t = 0
  · have la := chk_len h0
    have hrows := chk_row h0
    have hcols := chk_cols h0
    simp only [h0, if_true, ne_eq, not_true, if_false, ref08_Columns_spec t n (by omega), ref08_index_spec i (cols t) (by omega) n (by omega), Option.bind_some, xAD_d, xDI_v]
    by_cases h1 : plc i (cols t) < 0
    · simp only [h1, if_true]
      exact ⟨_, _, rfl, .inr (.inl ⟨rfl, rfl⟩)⟩
    obtain ⟨k, hk, hkl⟩ := plc_nat h1
    have h1' : ¬ (k : Int) < 0 := by omega
    rw [hk]
    simp only [h1', if_false]
    by_cases hb : by_ = []
    · simp only [hb, if_true]
      exact ⟨_, _, rfl, .inr (.inl ⟨rfl, rfl⟩)⟩
    by_cases hc8 : cols t = 8
    · have hc8' : (cols t : Int) = 8 := by omega
      simp only [hb, if_false, hc8, hc8', if_true]
      exact ⟨_, _, rfl, .inr (.inl ⟨rfl, rfl⟩)⟩
    have hc8' : ¬ (cols t : Int) = 8 := by omega
    have hokd : ∀ d : D, C.hok (.d d) = true := fun _ => rfl
    simp only [hb, hc8, hc8', if_false, Int.toNat_natCast]
    have key := iter_ex (R := A × Hp) t.length (fun q (x : Hp × List (List D) × List UInt8 × Int × C × Int × Unit) => ∃ H1 out, x = (H1, tD t, by_, (k : Int), out, (q : Int), ()) ∧ OwT 0 H1 out ((t.take q).map (splG k by_))) (fun p => ∃ c' H', p = (.tup [.one c', aI 0], H') ∧ RdT H' c' (t.map (splG k by_)))
      (F := fun (x : Hp × List (List D) × List UInt8 × Int × C × Int × Unit) (rec : (Hp × List (List D) × List UInt8 × Int × C × Int × Unit) → Option (A × Hp)) => ref08_Split_l0 (O0 n).Φ (O0 n).Ψ f (fun H22 t23 by24 k25 out26 i27 => rec (H22, t23, by24, k25, out26, i27, ())) x.1 x.2.1 x.2.2.1 x.2.2.2.1 x.2.2.2.2.1 x.2.2.2.2.2.1)
      (fun q x rec hq hx hrec => by
        obtain ⟨H1, out, rfl, ho⟩ := hx
        by_cases hlt : q < t.length
        · have hw := wrap_i (q + 1) (by omega) (by omega)
          have hlt' : (q : Int) < (t.length : Nat) := by omega
          have hrl := hrows _ (List.getElem_mem hlt)
          have hA : hAddr (.d (.sl (tD t))) (q : Int) = some (.d (.pp [.sl (rD t[q])])) := hAt_tD t q hlt
          have hts : (t.take (q + 1)).map (splG k by_) = (t.take q).map (splG k by_) ++ [splG k by_ t[q]] := by rw [List.take_succ_eq_append_getElem hlt, List.map_append]; rfl
          have hacc : ((t.take q).map (splG k by_)).length ≤ 64 := by simp; omega
          generalize (t.take q).map (splG k by_) = acc at ho hts hacc
          generalize t[q] = r at hrl hA hts
          have hkr : k < r.length := by omega
          have hsl : (r.getD k []).length ≤ 64 := chkS_len (chkR_mem hrl.2.2.2 _ (getD_mem r k hkr))
          have hgd : r.getD k [] = r[k] := by simp [hkr]
          have hAk : hAddr (.d (.sl (rD r))) (k : Int) = some (.d (.pp [.s (r.getD k [])])) := by rw [hgd]; exact hAt_rD r k hkr
          have hcut := ref08_cut_spec (r.getD k []) by_ (by omega) (by omega) n (by omega)
          have hNr : hLen (.d (.sl (rD r))) = some r.length := by simp [hLen]
          have hls := ref08_list_Ψ (H := H1) (RdR.data H1 (r.take k)) (by simp; omega) n (by omega)
          have hgr : splG k by_ r = r.take k ++ [(Lib.cut (r.getD k []) by_).1, (Lib.cut (r.getD k []) by_).2.1] ++ r.drop (k + 1) := rfl
          rw [hgr] at hts
          generalize (Lib.cut (r.getD k []) by_).1 = sa at hcut hts
          generalize (Lib.cut (r.getD k []) by_).2.1 = sb at hcut hts
          obtain ⟨c1, H2, c2, H3, c3, H4, e1, e2, e3, e4, e5, e6, e7⟩ := row_app3 ho (r.take k) sa sb (r.drop (k + 1))
          have hcs : hCells (cpH (r.take k) H1) (.full [[D.s sa], [D.s sb]]) = some [sC sa, sC sb] := hCells_full (cpH (r.take k) H1) [sa, sb]
          have hln := (cp_own (r.take k) H1).rd.len
          have hcd := hCells_rD H2 (r.drop (k + 1))
          have hr8 : r.length ≤ 8 := by omega
          have htk : (r.take k).length ≤ 8 := by rw [List.length_take]; exact Nat.le_trans (Nat.min_le_right ..) hr8
          have hs3 : (acc.length + [c2].length) * 24 ≤ 140737488355328 := by rw [List.length_singleton]; exact sz_tab acc.length 0 hacc (Nat.zero_le _)
          have hs2 : ((r.take k).length + 2 + ((r.drop (k + 1)).map sC).length) * 16 ≤ 140737488355328 := sz_row2 _ _ htk (by rw [List.length_map, List.length_drop]; exact Nat.le_trans (Nat.sub_le ..) hr8)
          have hs1 : ((r.take k).length + [sC sa, sC sb].length) * 16 ≤ 140737488355328 := sz_row _ htk
          have hwk := wrap_succ k (Nat.le_trans (Nat.le_of_lt hkr) (Nat.le_trans hr8 (by decide)))
          simp only [ref08_Split_l0, length_tD, xite_decide, hlt', if_true, hA, hLoad_pp, hAk, xS_s, hcut, xtup_tup, List.getElem?_cons_zero, List.getElem?_cons_succ, xAD_d, xDS_s, Option.bind_some, hNr, hSub_rD r k (Nat.le_of_lt hkr), hwk, hSub_rDend r (k + 1) hkr, hokd, xif_tt, hls, xone_one, hln, hcs, hs1, decide_true, e1, e2, hcd, hs2, e3, oneCs_one e4, hPush, e5.rd.len, hCells_box, hs3, e6, e7.rd.hok, hw]
          exact hrec _ hlt ⟨H4, c3, rfl, by rw [hts]; exact e7⟩
        · have hlt' : ¬ (q : Int) < (t.length : Nat) := by omega
          have hok : xokR (.tup [.one out, aI 0]) = true := by have := ho.rd.hok; simp only [xokR, List.all_cons, List.all_nil, xokC, this]; rfl
          rw [List.take_of_length_le (by omega)] at ho
          simp only [ref08_Split_l0, length_tD, xite_decide, hlt', if_false, hok, xif_tt]
          exact ⟨_, rfl, out, H1, rfl, ho.rd⟩) f 0 ([], tD t, by_, (k : Int), .full [], (0 : Int), ()) (by omega) (by omega) ⟨[], .full [], rfl, .inl ⟨rfl, rfl⟩⟩
    obtain ⟨_, hr, c', H', rfl, h2⟩ := key
    exact ⟨c', H', hr, h2⟩
  · simp only [h0, if_false, ne_eq, not_false_eq_true, if_true]
    exact ⟨_, _, rfl, .inr (.inl ⟨rfl, rfl⟩)⟩
theorem ref08_Split_spec (t : Tab) (i : Int) (by_ : Txt) (hby : by_.length ≤ 100) (n : Nat) (hn : 1101 ≤ n) : (O0 n).Φ i_ref08_Split [aT t, aI i, aS by_] = some (two (aT (splF t i by_).1) (aI (splF t i by_).2)) := by
  obtain ⟨m, rfl⟩ := nat_succ (n := n) (k := 0) (by omega)
  obtain ⟨c', H', h1, h2⟩ := ref08_Split_gen t i by_ hby m (by omega) m (by omega)
  rw [ref08_Split_run, h1, Option.bind_some]
  simp only [xlowR, xlowRs, h2.low 1, Option.bind_some]
  rfl

theorem splF_shp (t : Tab) (i : Int) (by_ : Txt) : (splF t i by_).1.length ≤ 1000 ∧ ∀ r ∈ (splF t i by_).1, r.length ≤ 1000 := by
  unfold splF
  by_cases h0 : chk t = 0
  · have la := chk_len h0
    simp only [h0, ne_eq, not_true, if_false]
    split
    · simp
    · split
      · simp
      · split
        · simp
        · refine ⟨by simp; omega, fun r hr => ?_⟩
          obtain ⟨q, hq, rfl⟩ := List.mem_map.1 hr
          have := chk_row h0 q hq
          simp only [splG, splR, List.length_append, List.length_take, List.length_drop, List.length_cons, List.length_nil]
          omega
  · simp [h0]
theorem tablesSplits_spec (t : Tab) (i : Int) (by_ : Txt) (n : Nat) (hn : 1300 ≤ n) : (O0 n).Φ i_law08_TablesSplits [aT t, aI i, aS by_] = some (aB true) := by
  obtain ⟨m, rfl⟩ := nat_succ (n := n) (k := 0) (by omega)
  rw [law08_TablesSplits_run]
  have e0 := awake_spec m (by omega)
  have e1 := ref08_Same_spec (splF t i by_).1 (splF t i by_).1 (splF_shp t i by_).1 (splF_shp t i by_).2 m (by omega)
  simp only [law08_TablesSplits, small_spec t m (by omega), Option.bind_some, xAD_d, xDB_v, xite_not]
  cases smallT t
  · simp only [xite_false, e0, Option.bind_some, xAD_d, xDB_v]
  · by_cases hb : 100 < by_.length
    · have hb' : (100 : Int) < by_.length := by omega
      simp only [xite_true, xite_decide, hb', if_true, e0, Option.bind_some, xAD_d, xDB_v]
    · have hb' : ¬ (100 : Int) < by_.length := by omega
      simp only [xite_true, xite_decide, hb', if_false, tables_Split_spec t i by_ (by omega) m (by omega), ref08_Split_spec t i by_ (by omega) m (by omega), Option.bind_some, xtup_tup, List.getElem?_cons_zero, List.getElem?_cons_succ, xAD_d, xDL_sl, xDI_v, xDB_v, e1, e0, if_true, decide_true]
end Go.Av
