/-
  Tables that are written: an outer block, the rows in blocks of their own, no two in one.
-/
import Derived.Test.YtnfbgleaodkjpaaHtRow
set_option linter.all false
set_option linter.unusedSimpArgs false
namespace Go.Av

/-- A row in a block: as much of it as is known; all of it. -/
def RwP (x : Option Bool) (H : Hp) (rc : C) (r : Row) : Prop :=
  match x with
  | none => (r = [] ∧ rc = .full []) ∨ ∃ k o, rc = .hs k 0 r.length ∧ hGet H k = some o ∧ r.length ≤ o.cs.length ∧ ∀ (j : Nat) (s : Txt), r[j]? = some s → o.cs[j]? = some (sC s)
  | some b => (r = [] ∧ rc = .full []) ∨ ∃ k, rc = .hs k 0 r.length ∧ hGet H k = some ⟨r.map sC, b⟩
theorem RwP.weak {x : Option Bool} {H : Hp} {rc : C} {r : Row} (h : RwP x H rc r) : RwP none H rc r := by
  cases x with
  | none => exact h
  | some b =>
    rcases h with h | ⟨k, h1, h2⟩
    · exact .inl h
    · exact .inr ⟨k, _, h1, h2, by simp, fun j s hj => by simp [hj]⟩
theorem RwP.rd {x : Option Bool} {H : Hp} {rc : C} {r : Row} (h : RwP x H rc r) : RdR H rc r := by
  rcases h.weak with ⟨rfl, rfl⟩ | ⟨k, o, h1, h2, h3, h4⟩
  · exact .inr (.inl rfl)
  · exact .inr (.inr ⟨k, 0, o, h1, h2, by omega, fun j s hj => by rw [Nat.zero_add]; exact h4 j s hj⟩)
theorem RwP.keep {x : Option Bool} {H H' : Hp} {rc : C} {r : Row} (h : RwP x H rc r) (hk : ∀ k, rc.hid = some k → hGet H' k = hGet H k) : RwP x H' rc r := by
  cases x with
  | none =>
    rcases h with h | ⟨k, o, h1, h2, h3, h4⟩
    · exact .inl h
    · exact .inr ⟨k, o, h1, by rw [hk k (by rw [h1]; rfl)]; exact h2, h3, h4⟩
  | some b =>
    rcases h with h | ⟨k, h1, h2⟩
    · exact .inl h
    · exact .inr ⟨k, h1, by rw [hk k (by rw [h1]; rfl)]; exact h2⟩

def MuT (n : Nat) (x : Nat → Option Bool) (H : Hp) (c : C) (t : Tab) : Prop :=
  (t = [] ∧ c = .full []) ∨ ∃ k cs b, n ≤ k ∧ c = .hs k 0 t.length ∧ hGet H k = some ⟨cs, b⟩ ∧ cs.length = t.length ∧
    (∀ (i : Nat) (r : Row), t[i]? = some r → ∃ rc, cs[i]? = some rc ∧ RwP (x i) H rc r ∧ rc.hid ≠ some k ∧ ∀ q, rc.hid = some q → n ≤ q) ∧
    ∀ (i j : Nat) (rc rc' : C) (q : Nat), i ≠ j → cs[i]? = some rc → cs[j]? = some rc' → rc.hid = some q → rc'.hid ≠ some q
theorem MuT.rd {n : Nat} {x : Nat → Option Bool} {H : Hp} {c : C} {t : Tab} (h : MuT n x H c t) : RdT H c t := by
  rcases h with ⟨rfl, rfl⟩ | ⟨k, cs, b, _, rfl, h2, h3, h4, _⟩
  · exact .inr (.inl ⟨rfl, rfl⟩)
  · refine .inr (.inr ⟨k, 0, _, rfl, h2, by simp [h3], fun i r hr => ?_⟩)
    obtain ⟨rc, g1, g2, _⟩ := h4 i r hr
    exact ⟨rc, by simpa using g1, g2.rd⟩
theorem MuT.ext {n : Nat} {x : Nat → Option Bool} {H H' : Hp} {c : C} {t : Tab} (h : MuT n x H c t) (hx : Ext H.length H H') : MuT n x H' c t := by
  rcases h with h | ⟨k, cs, b, h1, h2, h3, h4, h5, h6⟩
  · exact .inl h
  · refine .inr ⟨k, cs, b, h1, h2, by rw [hx.2 k (hGet_lt h3)]; exact h3, h4, fun i r hr => ?_, h6⟩
    obtain ⟨rc, g1, g2, g3, g4⟩ := h5 i r hr
    exact ⟨rc, g1, g2.keep fun q hq => hx.2 q (g2.rd.lt q hq), g3, g4⟩

/-- One heap is another but for one row's block, and blocks beyond. -/
def But (rc : C) (H H1 : Hp) : Prop := H.length ≤ H1.length ∧ ∀ q, q < H.length → rc.hid ≠ some q → hGet H1 q = hGet H q
theorem But.ext {n : Nat} {rc : C} {H H1 : Hp} (h : But rc H H1) (hn : n ≤ H.length) (hrc : ∀ q, rc.hid = some q → n ≤ q) : Ext n H H1 := ⟨Nat.le_trans hn h.1, fun q hq => h.2 q (by omega) fun e => by have := hrc q e; omega⟩

theorem MuT.at {n : Nat} {x : Nat → Option Bool} {H : Hp} {c : C} {t : Tab} (h : MuT n x H c t) (hn : n ≤ H.length) (i : Nat) (hi : i < t.length) :
    ∃ p rc, hAddr c (i : Int) = some p ∧ hLoad H p = some rc ∧ RwP (x i) H rc t[i] ∧ (∀ q, rc.hid = some q → n ≤ q) ∧
      (∀ (y : Option Bool) (H1 : Hp) (rc' : C) (r' : Row), But rc H H1 → RwP y H1 rc' r' → (∀ q, rc'.hid = some q → rc.hid = some q ∨ H.length ≤ q) → ∃ H2, hStore H1 p rc' = some H2 ∧ MuT n (upd x i y) H2 c (t.set i r') ∧ Ext n H H2) ∧
      (∀ (y : Option Bool) (H1 : Hp) (r' : Row), But rc H H1 → RwP y H1 rc r' → MuT n (upd x i y) H1 c (t.set i r') ∧ hLoad H1 p = some rc) := by
  rcases h with ⟨rfl, rfl⟩ | ⟨k, cs, b, h1, rfl, h2, h3, h4, h5⟩
  · simp at hi
  · have hkl := hGet_lt h2
    obtain ⟨rc, g1, g2, g3, g4⟩ := h4 i _ (List.getElem?_eq_getElem hi)
    -- what is left of the others
    have others : ∀ (H1 : Hp), But rc H H1 → ∀ (j : Nat) (r : Row), j ≠ i → t[j]? = some r → ∃ rj, cs[j]? = some rj ∧ RwP (x j) H1 rj r ∧ rj.hid ≠ some k ∧ ∀ q, rj.hid = some q → n ≤ q := fun H1 hb j r hji hr => by
      obtain ⟨rj, a1, a2, a3, a4⟩ := h4 j r hr
      exact ⟨rj, a1, a2.keep fun q hq => hb.2 q (a2.rd.lt q hq) fun e => h5 i j rc rj q (Ne.symm hji) g1 a1 e hq, a3, a4⟩
    refine ⟨.hp k i, rc, ?_, ?_, g2, g4, fun y H1 rc' r' hb hw hid => ?_, fun y H1 r' hb hw => ?_⟩
    · simp only [hAddr]; rw [if_pos (by omega)]; simp
    · simp only [hLoad, h2, Option.bind_some]; exact g1
    · have hk1 : hGet H1 k = some ⟨cs, b⟩ := by rw [hb.2 k hkl g3]; exact h2
      have hk1l := hGet_lt hk1
      have hok : rc'.hok = true := hw.rd.hok
      have hics : i < cs.length := by omega
      have hidk : rc'.hid ≠ some k := fun e => by
        rcases hid k e with e | e
        · exact g3 e
        · omega
      have hst : hStore H1 (.hp k i) rc' = some (H1.set k (some ⟨cs.set i rc', b⟩)) := by
        simp only [hStore, hk1, Option.bind_some]
        rw [if_pos ⟨hics, hok⟩]
        congr 4
        apply List.ext_getElem?
        intro j
        rw [getElem?_rpl _ _ _ (by simp; omega), List.getElem?_set]
        by_cases hj : i = j
        · subst hj; simp [hics]
        · simp only [hj, if_false]
          split
          · rfl
          · split
            · rename_i u1 u2; simp only [List.length_singleton] at u2; omega
            · rfl
      have hkeep : ∀ q, q ≠ k → hGet (H1.set k (some ⟨cs.set i rc', b⟩)) q = hGet H1 q := fun q hq => hGet_set_ne hq _
      refine ⟨_, hst, .inr ⟨k, cs.set i rc', b, h1, by simp, hGet_set_self hk1l _, by simp [h3], fun j r hr => ?_, fun a a' ra ra' q haa ha ha' hq => ?_⟩, (hb.ext hn g4).trans (Ext.set (Nat.le_trans hn hb.1) h1 _)⟩
      · rw [List.getElem?_set] at hr
        by_cases hj : i = j
        · subst hj
          rw [if_pos rfl, if_pos hi] at hr
          simp only [Option.some.injEq] at hr
          subst hr
          refine ⟨rc', by simp [hics], ?_, hidk, fun q hq => ?_⟩
          · simp only [upd_same]; exact hw.keep fun q hq => hkeep q fun e => hidk (by rw [← e]; exact hq)
          · rcases hid q hq with e | e
            · exact g4 q e
            · omega
        · rw [if_neg hj] at hr
          obtain ⟨rj, a1, a2, a3, a4⟩ := others H1 hb j r (Ne.symm hj) hr
          refine ⟨rj, by rw [List.getElem?_set, if_neg hj]; exact a1, ?_, a3, a4⟩
          rw [upd_ne _ _ _ _ (Ne.symm hj)]
          exact a2.keep fun q hq => hkeep q fun e => a3 (by rw [← e]; exact hq)
      · have cell : ∀ (a : Nat) (ra : C), (cs.set i rc')[a]? = some ra → (a = i ∧ ra = rc') ∨ (a ≠ i ∧ cs[a]? = some ra) := fun a ra ha => by
          rw [List.getElem?_set] at ha
          by_cases hj : i = a
          · subst hj; rw [if_pos rfl, if_pos hics] at ha; simp only [Option.some.injEq] at ha; exact .inl ⟨rfl, ha.symm⟩
          · rw [if_neg hj] at ha; exact .inr ⟨Ne.symm hj, ha⟩
        have lt : ∀ (a : Nat) (ra : C), cs[a]? = some ra → ∀ q, ra.hid = some q → q < H.length := fun a ra ha q hq => by
          have hal : a < t.length := by have := (List.getElem?_eq_some_iff.1 ha).1; omega
          obtain ⟨rj, a1, a2, _⟩ := h4 a _ (List.getElem?_eq_getElem hal)
          rw [ha] at a1
          simp only [Option.some.injEq] at a1
          subst a1
          exact a2.rd.lt q hq
        rcases cell a ra ha with ⟨rfl, rfl⟩ | ⟨n1, e1⟩ <;> rcases cell a' ra' ha' with ⟨rfl, rfl⟩ | ⟨n2, e2⟩
        · exact absurd rfl haa
        · rcases hid q hq with e | e
          · exact h5 a a' rc ra' q haa g1 e2 e
          · intro e'; have := lt a' ra' e2 q e'; omega
        · intro e'
          rcases hid q e' with e | e
          · exact h5 a a' ra rc q haa e1 g1 hq e
          · have := lt a ra e1 q hq; omega
        · exact h5 a a' ra ra' q haa e1 e2 hq
    · have hk1 : hGet H1 k = some ⟨cs, b⟩ := by rw [hb.2 k hkl g3]; exact h2
      refine ⟨.inr ⟨k, cs, b, h1, by simp, hk1, by simp [h3], fun j r hr => ?_, h5⟩, by simp only [hLoad, hk1, Option.bind_some]; exact g1⟩
      rw [List.getElem?_set] at hr
      by_cases hj : i = j
      · subst hj
        rw [if_pos rfl, if_pos hi] at hr
        simp only [Option.some.injEq] at hr
        subst hr
        exact ⟨rc, g1, by simp only [upd_same]; exact hw, g3, g4⟩
      · rw [if_neg hj] at hr
        obtain ⟨rj, a1, a2, a3, a4⟩ := others H1 hb j r (Ne.symm hj) hr
        exact ⟨rj, a1, by rw [upd_ne _ _ _ _ (Ne.symm hj)]; exact a2, a3, a4⟩
end Go.Av
