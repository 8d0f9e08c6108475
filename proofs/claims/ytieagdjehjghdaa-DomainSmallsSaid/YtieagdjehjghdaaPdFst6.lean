/-
  DomainSmalls: whatever the types and the number, true.
-/
import Derived.Test.YtieagdjehjghdaaPdFst5
set_option linter.all false
set_option linter.unusedSimpArgs false
set_option maxRecDepth 100000
namespace Go.Av
open Go.Proofs

def typeN (t : Int) : List UInt8 :=
  if t = 1 then [98, 111, 111, 108] else if t = 2 then [105, 110, 116] else if t = 3 then [116, 101, 120, 116] else if t = 4 then [98, 105, 116, 115]
  else if t = 5 then [105, 110, 116, 115] else if t = 6 then [116, 101, 120, 116, 115] else if t = 7 then [116, 97, 98, 108, 101] else if t = 8 then [112, 97, 116, 116, 101, 114, 110] else []
theorem ref01_TypeName_spec (t : Int) (n : Nat) (hn : 2 ≤ n) : Φ0 n i_ref01_TypeName [aI t] = some (aS (typeN t)) := by
  obtain ⟨m, rfl⟩ := nat_succ (n := n) (k := 0) (by omega)
  obtain ⟨m, rfl⟩ := nat_succ (n := m) (k := 0) (by omega)
  rw [ref01_TypeName_run]
  by_cases h0 : t < 1
  · have : typeN t = [] := by unfold typeN; repeat rw [if_neg (by omega)]
    simp [ref01_TypeName, h0, this]
  · by_cases h9 : 8 < t
    · have : typeN t = [] := by unfold typeN; repeat rw [if_neg (by omega)]
      simp [ref01_TypeName, h0, h9, this]
    · have : t = 1 ∨ t = 2 ∨ t = 3 ∨ t = 4 ∨ t = 5 ∨ t = 6 ∨ t = 7 ∨ t = 8 := by omega
      rcases this with rfl | rfl | rfl | rfl | rfl | rfl | rfl | rfl <;> simp [ref01_TypeName, ref01_names_run, ref01_names] <;> rfl
theorem typeN_nil (t : Int) : typeN t = [] ↔ ¬ (1 ≤ t ∧ t ≤ 8) := by
  constructor
  · intro h ⟨h1, h8⟩
    have : t = 1 ∨ t = 2 ∨ t = 3 ∨ t = 4 ∨ t = 5 ∨ t = 6 ∨ t = 7 ∨ t = 8 := by omega
    rcases this with rfl | rfl | rfl | rfl | rfl | rfl | rfl | rfl <;> simp [typeN] at h
  · intro h
    unfold typeN; repeat rw [if_neg (by omega)]

theorem firstAll (t : Int) (h1 : 1 ≤ t) (h8 : t ≤ 8) (N : Nat) (hN : N ≤ 64) (n : Nat) (hn : 100 ≤ n) : Φ0 n i_domain_first [aI t, aI N] = some (aL (firstF t.toNat N)) := by
  have : t = 1 ∨ t = 2 ∨ t = 3 ∨ t = 4 ∨ t = 5 ∨ t = 6 ∨ t = 7 ∨ t = 8 := by omega
  rcases this with rfl | rfl | rfl | rfl | rfl | rfl | rfl | rfl
  · exact first1 N hN n hn
  · exact first2 N hN n hn
  · exact first3 N hN n hn
  · exact first4 N hN n hn
  · exact first5 N hN n hn
  · exact first6 N hN n hn
  · exact first7 N hN n hn
  · exact first8 N hN n hn
theorem FirstAll (t : Int) (h1 : 1 ≤ t) (h8 : t ≤ 8) (N : Nat) (hN : N ≤ 64) (n : Nat) (hn : 100 ≤ n) : Φ0 n i_ref19_First [aI t, aI N] = some (aL (firstF t.toNat N)) := by
  have : t = 1 ∨ t = 2 ∨ t = 3 ∨ t = 4 ∨ t = 5 ∨ t = 6 ∨ t = 7 ∨ t = 8 := by omega
  rcases this with rfl | rfl | rfl | rfl | rfl | rfl | rfl | rfl
  · exact First1 N hN n hn
  · exact First2 N hN n hn
  · exact First3 N hN n hn
  · exact First4 N hN n hn
  · exact First5 N hN n hn
  · exact First6 N hN n hn
  · exact First7 N hN n hn
  · exact First8 N hN n hn

def goodT (t : Int) : Bool := decide (1 ≤ t) && decide (t ≤ 8)
def axesF (ts : List Int) (N : Nat) : List (List GV) := ts.map fun t => firstF t.toNat N
theorem axesF_facts (ts : List Int) (N : Nat) (hg : ts.all goodT = true) (h4 : ts.length ≤ 4) (hN : N ≤ 64) : (axesF ts N).length ≤ 4 ∧ ∀ a ∈ axesF ts N, a.length ≤ 64 ∧ GV.wtL a ≤ 6500 ∧ ∀ x ∈ a, x.Ok := by
  refine ⟨by simpa [axesF] using h4, fun a ha => ?_⟩
  simp only [axesF, List.mem_map] at ha
  obtain ⟨t, ht, rfl⟩ := ha
  have hg := List.all_eq_true.1 hg t ht
  simp only [goodT, Bool.and_eq_true, decide_eq_true_eq] at hg
  exact ⟨Nat.le_trans (firstF_len _ _) hN, firstF_wt _ _ (by omega) (by omega) hN, firstF_ok _ _ hN⟩
theorem prodF_ok : ∀ (d : List (List GV)) (n : Nat), n * 64 ^ d.length ≤ 1152921504606846976 → (∀ a ∈ d, a.length ≤ 64) → (prodF d (n : Int)).2 = 0
  | [], n, _, _ => rfl
  | a :: d, n, hb, hl => by
    have ha := hl a (List.mem_cons_self ..)
    have h1 : n * a.length * 64 ^ d.length ≤ 1152921504606846976 := by
      refine Nat.le_trans ?_ hb
      rw [List.length_cons, Nat.pow_succ, Nat.mul_comm (64 ^ d.length) 64, ← Nat.mul_assoc]
      exact Nat.mul_le_mul_right _ (Nat.mul_le_mul_left _ ha)
    have h2 : n * a.length ≤ 1152921504606846976 := Nat.le_trans (Nat.le_mul_of_pos_right _ (Nat.pow_pos (by omega))) h1
    rw [prodF, ← Int.natCast_mul, if_neg (by omega)]
    exact prodF_ok d (n * a.length) h1 fun b hb => hl b (List.mem_cons_of_mem _ hb)
theorem axes_err (d : List (List GV)) (h4 : d.length ≤ 4) (hl : ∀ a ∈ d, a.length ≤ 64) : (sizeF d).2 = 0 := by
  unfold sizeF
  split
  · rfl
  · refine prodF_ok d 1 ?_ hl
    have : 64 ^ d.length ≤ 64 ^ 4 := Nat.pow_le_pow_right (by omega) h4
    omega

def smallF (ts : List Int) (n : Int) : List (List GV) × Int :=
  if (4 : Int) < ts.length then ([], 2) else if ts.all goodT = false then ([], 3) else if n < 0 then ([], 1) else if 64 < n then ([], 1)
  else if 4096 < (sizeF (axesF ts n.toNat)).1 then ([], 11) else (axesF ts n.toNat, 0)

theorem axesF_take (ts : List Int) (N k : Nat) (h : k < ts.length) : axesF (ts.take (k + 1)) N = axesF (ts.take k) N ++ [firstF ts[k].toNat N] := by
  rw [axesF, List.take_succ_eq_append_getElem h, List.map_append]; rfl
theorem goodT_drop (ts : List Int) (k : Nat) (h : k < ts.length) : (ts.drop k).all goodT = (goodT ts[k] && (ts.drop (k + 1)).all goodT) := by
  rw [drop_some ts k h, List.all_cons]

theorem domain_Small_spec (ts : List Int) (n : Int) (q : Nat) (hq : 200 ≤ q) : Φ0 q i_domain_Small [aT ts, aI n] = some (twoD (smallF ts n)) := by
  obtain ⟨m, rfl⟩ := nat_succ (n := q) (k := 0) (by omega)
  rw [domain_Small_run, domain_Small]
  unfold smallF
  by_cases h4 : (4 : Int) < ts.length
  · simp only [List.length_map, h4, xite_decide, if_true]
    rfl
  · simp only [List.length_map, h4, xite_decide, if_false]
    refine iter_ex' (R := A) ts.length (fun k x => x = (ts.map inC, n, (), ts.map inC, (ts.length : Int), (k : Int), ([], ()), ()) ∧ ts.all goodT = (ts.drop k).all goodT) _ (fun k x rec hk hx hrec => ?_) m 0 _ (by omega) (by omega) ⟨rfl, rfl⟩
    obtain ⟨rfl, hg⟩ := hx
    by_cases hlt : k < ts.length
    · have hlt' : (k : Int) < ts.length := by omega
      have hw := wrap_i (k + 1) (by omega) (by omega)
      have hte : xElem 1 (ts.map inC) (k : Int) = some (inC ts[k]) := xElem_map 1 inC ts k hlt length_inC
      rw [goodT_drop ts k hlt] at hg
      by_cases c1 : ts[k] < 1
      · have hf : ts.all goodT = false := by rw [hg]; simp [goodT]; omega
        simp only [domain_Small_l0, hlt', hte, c1, hf, length_inC, inC0, xDI_v, xite_decide, xif_decide, Option.bind_some, Nat.le_refl, if_true]
        rfl
      · by_cases c2 : 8 < ts[k]
        · have hf : ts.all goodT = false := by rw [hg]; simp [goodT]; omega
          simp only [domain_Small_l0, hlt', hte, c1, c2, hf, length_inC, inC0, xDI_v, xite_decide, xif_decide, Option.bind_some, Nat.le_refl, if_true, if_false]
          rfl
        · have hgk : goodT ts[k] = true := by simp [goodT]; omega
          rw [hgk, Bool.true_and] at hg
          simp only [domain_Small_l0, hlt', hte, c1, c2, hw, length_inC, inC0, xDI_v, xite_decide, xif_decide, Option.bind_some, Nat.le_refl, if_true, if_false]
          exact hrec _ hlt ⟨rfl, hg⟩
    · have hlt' : ¬ (k : Int) < ts.length := by omega
      rw [List.drop_of_length_le (by omega), List.all_nil] at hg
      by_cases c1 : n < 0
      · simp only [domain_Small_l0, hlt', hg, c1, xite_decide, if_true, if_false, Bool.true_eq_false]
        rfl
      · by_cases c2 : 64 < n
        · simp only [domain_Small_l0, hlt', hg, c1, c2, xite_decide, if_true, if_false, Bool.true_eq_false]
          rfl
        · obtain ⟨N, rfl⟩ : ∃ N : Nat, n = N := ⟨n.toNat, by omega⟩
          have hN : N ≤ 64 := by omega
          obtain ⟨f1, f2⟩ := axesF_facts ts N hg (by omega) hN
          have herr := axes_err _ f1 fun a ha => (f2 a ha).1
          simp only [domain_Small_l0, hlt', hg, c1, c2, Int.toNat_natCast, decide_true, xif_true, List.length_map, xite_decide, if_true, if_false, Bool.true_eq_false]
          refine iter_ex' (R := A) ts.length (fun k x => x = ((N : Int), (), (), ts.map inC, (ts.length : Int), (k : Int), ([], ()), (dL (axesF (ts.take k) N), ()), ())) _ (fun k x rec2 hk hx hrec2 => ?_) m 0 _ (by omega) (by omega) rfl
          subst hx
          by_cases hlt : k < ts.length
          · have hlt' : (k : Int) < ts.length := by omega
            have hw := wrap_i (k + 1) (by omega) (by omega)
            have hte : xElem 1 (ts.map inC) (k : Int) = some (inC ts[k]) := xElem_map 1 inC ts k hlt length_inC
            have hgk := List.all_eq_true.1 hg _ (List.getElem_mem hlt)
            simp only [goodT, Bool.and_eq_true, decide_eq_true_eq] at hgk
            have hf := firstAll ts[k] hgk.1 hgk.2 N hN m (by omega)
            have happ := app_out (axesF (ts.take k) N) (firstF ts[k].toNat N) (by simp [axesF]; omega)
            rw [← axesF_take ts N k hlt] at happ
            simp only [domain_Small_l1, hlt', hte, hw, hf, happ, length_inC, inC0, xDI_v, xAD_d, xDL_sl, xite_decide, xif_decide, Option.bind_some, Nat.le_refl, if_true]
            exact hrec2 _ hlt rfl
          · have hlt' : ¬ (k : Int) < ts.length := by omega
            have hke : ts.take k = ts := List.take_of_length_le (by omega)
            have hsz := domain_Size_spec (axesF ts N) (by omega) (fun a ha => by have := (f2 a ha).1; omega) m (by omega)
            rw [hke]
            simp only [domain_Small_l1, hlt', hsz, herr, xtup_tup, List.getElem?_cons_zero, List.getElem?_cons_succ, xAD_d, xDI_v, xite_decide, xite_not, Option.bind_some, if_true, if_false]
            by_cases c3 : 4096 < (sizeF (axesF ts N)).1
            · simp only [c3, if_true]; rfl
            · simp only [c3, if_false]

theorem ref19_Small_spec (ts : List Int) (n : Int) (q : Nat) (hq : 200 ≤ q) : Φ0 q i_ref19_Small [aT ts, aI n] = some (twoD (smallF ts n)) := by
  obtain ⟨m, rfl⟩ := nat_succ (n := q) (k := 0) (by omega)
  rw [ref19_Small_run, ref19_Small]
  unfold smallF
  by_cases h4 : (4 : Int) < ts.length
  · simp only [List.length_map, h4, xite_decide, if_true]
    rfl
  · simp only [List.length_map, h4, xite_decide, if_false]
    refine iter_ex' (R := A) ts.length (fun k x => x = (ts.map inC, n, (), (k : Int), ([], ()), ()) ∧ ts.all goodT = (ts.drop k).all goodT) _ (fun k x rec hk hx hrec => ?_) m 0 _ (by omega) (by omega) ⟨rfl, rfl⟩
    obtain ⟨rfl, hg⟩ := hx
    by_cases hlt : k < ts.length
    · have hlt' : (k : Int) < ts.length := by omega
      have hw := wrap_i (k + 1) (by omega) (by omega)
      have hte : xElem 1 (ts.map inC) (k : Int) = some (inC ts[k]) := xElem_map 1 inC ts k hlt length_inC
      have htn := ref01_TypeName_spec ts[k] m (by omega)
      rw [goodT_drop ts k hlt] at hg
      by_cases c1 : typeN ts[k] = []
      · have hb := (typeN_nil ts[k]).1 c1
        have hf : ts.all goodT = false := by
          rw [hg]
          have : goodT ts[k] = false := by
            by_cases e1 : 1 ≤ ts[k]
            · have : ¬ ts[k] ≤ 8 := fun e2 => hb ⟨e1, e2⟩
              simp [goodT, this]
            · simp [goodT, e1]
          rw [this, Bool.false_and]
        simp only [ref19_Small_l0, List.length_map, hlt', hte, htn, c1, hf, length_inC, inC0, xDI_v, xDS_s, xAD_d, xite_decide, xif_decide, Option.bind_some, Nat.le_refl, if_true]
        rfl
      · have hb : 1 ≤ ts[k] ∧ ts[k] ≤ 8 := Decidable.byContradiction fun h => c1 ((typeN_nil ts[k]).2 h)
        have hgk : goodT ts[k] = true := by simp [goodT, hb.1, hb.2]
        rw [hgk, Bool.true_and] at hg
        simp only [ref19_Small_l0, List.length_map, hlt', hte, htn, c1, hw, length_inC, inC0, xDI_v, xDS_s, xAD_d, xite_decide, xif_decide, Option.bind_some, Nat.le_refl, if_true, if_false]
        exact hrec _ hlt ⟨rfl, hg⟩
    · have hlt' : ¬ (k : Int) < ts.length := by omega
      rw [List.drop_of_length_le (by omega), List.all_nil] at hg
      by_cases c1 : n < 0
      · simp only [ref19_Small_l0, List.length_map, hlt', hg, c1, xite_decide, if_true, if_false, Bool.true_eq_false]
        rfl
      · by_cases c2 : 64 < n
        · simp only [ref19_Small_l0, List.length_map, hlt', hg, c1, c2, xite_decide, if_true, if_false, Bool.true_eq_false]
          rfl
        · obtain ⟨N, rfl⟩ : ∃ N : Nat, n = N := ⟨n.toNat, by omega⟩
          have hN : N ≤ 64 := by omega
          obtain ⟨f1, f2⟩ := axesF_facts ts N hg (by omega) hN
          have herr := axes_err _ f1 fun a ha => (f2 a ha).1
          simp only [ref19_Small_l0, hlt', hg, c1, c2, Int.toNat_natCast, decide_true, xif_true, List.length_map, xite_decide, if_true, if_false, Bool.true_eq_false]
          refine iter_ex' (R := A) ts.length (fun k x => x = (ts.map inC, (N : Int), (), (), (k : Int), ([], ()), (dL (axesF (ts.take k) N), ()), ())) _ (fun k x rec2 hk hx hrec2 => ?_) m 0 _ (by omega) (by omega) rfl
          subst hx
          by_cases hlt : k < ts.length
          · have hlt' : (k : Int) < ts.length := by omega
            have hw := wrap_i (k + 1) (by omega) (by omega)
            have hte : xElem 1 (ts.map inC) (k : Int) = some (inC ts[k]) := xElem_map 1 inC ts k hlt length_inC
            have hgk := List.all_eq_true.1 hg _ (List.getElem_mem hlt)
            simp only [goodT, Bool.and_eq_true, decide_eq_true_eq] at hgk
            have hf := FirstAll ts[k] hgk.1 hgk.2 N hN m (by omega)
            have happ := app_out (axesF (ts.take k) N) (firstF ts[k].toNat N) (by simp [axesF]; omega)
            rw [← axesF_take ts N k hlt] at happ
            simp only [ref19_Small_l1, List.length_map, hlt', hte, hw, hf, length_inC, inC0, xDI_v, xAD_d, xDL_sl, xite_decide, xif_decide, Option.bind_some, Nat.le_refl, if_true]
            simp only [List.length_map] at happ
            simp only [happ, Option.bind_some, xif_decide, if_true]
            exact hrec2 _ hlt rfl
          · have hlt' : ¬ (k : Int) < ts.length := by omega
            have hke : ts.take k = ts := List.take_of_length_le (by omega)
            have hsz := ref19_Size_spec (axesF ts N) (by omega) (fun a ha => by have := (f2 a ha).1; omega) m (by omega)
            rw [hke]
            simp only [ref19_Small_l1, List.length_map, hlt', hsz, xtup_tup, List.getElem?_cons_zero, List.getElem?_cons_succ, xAD_d, xDI_v, xite_decide, xite_not, Option.bind_some, if_true, if_false]
            by_cases c3 : 4096 < (sizeF (axesF ts N)).1
            · simp only [c3, if_true]; rfl
            · simp only [c3, if_false]
end Go.Av
