/-
  Rows and tables in blocks under counted names: read, cut, made longer.
-/
import Derived.Test.YtnfbgleaodkjpaaHtPart
set_option linter.all false
set_option linter.unusedSimpArgs false
namespace Go.Av

/-- The block a slice lies in. -/
def C.hid : C → Option Nat
  | .hs k _ _ => some k
  | _ => none
/-- The blocks below a number are as they were. -/
def Ext (n : Nat) (H H' : Hp) : Prop := n ≤ H'.length ∧ ∀ k, k < n → hGet H' k = hGet H k
theorem Ext.refl {n : Nat} {H : Hp} (h : n ≤ H.length) : Ext n H H := ⟨h, fun _ _ => rfl⟩
theorem Ext.trans {n : Nat} {H1 H2 H3 : Hp} (h : Ext n H1 H2) (k : Ext n H2 H3) : Ext n H1 H3 := ⟨k.1, fun i hi => (k.2 i hi).trans (h.2 i hi)⟩
theorem Ext.le {m n : Nat} {H H' : Hp} (h : Ext n H H') (hm : m ≤ n) : Ext m H H' := ⟨Nat.le_trans hm h.1, fun i hi => h.2 i (by omega)⟩
theorem hGet_lt {H : Hp} {k : Nat} {o : HO} (h : hGet H k = some o) : k < H.length := (List.getElem?_eq_some_iff.1 (hGet_some h)).1
theorem hGet_push_lt {H : Hp} {k : Nat} (h : k < H.length) (q : List (Option HO)) : hGet (H ++ q) k = hGet H k := by
  unfold hGet; rw [List.getElem?_append_left h]
theorem Ext.push {n : Nat} {H : Hp} (h : n ≤ H.length) (q : List (Option HO)) : Ext n H (H ++ q) := ⟨by simp; omega, fun k hk => hGet_push_lt (by omega) q⟩
theorem hGet_set_self {H : Hp} {k : Nat} (h : k < H.length) (o : Option HO) : hGet (H.set k o) k = o := by
  unfold hGet; rw [List.getElem?_set_self h]; cases o <;> rfl
theorem hGet_set_ne {H : Hp} {k j : Nat} (h : j ≠ k) (o : Option HO) : hGet (H.set k o) j = hGet H j := by
  unfold hGet; rw [List.getElem?_set_ne (Ne.symm h)]
theorem Ext.set {n : Nat} {H : Hp} (h : n ≤ H.length) {k : Nat} (hk : n ≤ k) (o : Option HO) : Ext n H (H.set k o) := ⟨by simpa using h, fun j hj => hGet_set_ne (by omega) o⟩

/-- A row as it is read. -/
def RdR (H : Hp) (c : C) (r : Row) : Prop :=
  c = .d (.sl (rD r)) ∨ c = .full (rD r) ∨ ∃ k off o, c = .hs k off r.length ∧ hGet H k = some o ∧ off + r.length ≤ o.cs.length ∧ ∀ (j : Nat) (s : Txt), r[j]? = some s → o.cs[off + j]? = some (sC s)

theorem RdR.data (H : Hp) (r : Row) : RdR H (.d (.sl (rD r))) r := .inl rfl
theorem RdR.keep {H H' : Hp} {c : C} {r : Row} (h : RdR H c r) (hk : ∀ k, c.hid = some k → hGet H' k = hGet H k) : RdR H' c r := by
  rcases h with h | h | ⟨k, off, o, h1, h2, h3, h4⟩
  · exact .inl h
  · exact .inr (.inl h)
  · exact .inr (.inr ⟨k, off, o, h1, by rw [hk k (by rw [h1]; rfl)]; exact h2, h3, h4⟩)
theorem RdR.ext {H H' : Hp} {c : C} {r : Row} (h : RdR H c r) {n : Nat} (hx : Ext n H H') (hn : ∀ k, c.hid = some k → k < n) : RdR H' c r := h.keep fun k hk => hx.2 k (hn k hk)
theorem RdR.lt {H : Hp} {c : C} {r : Row} (h : RdR H c r) (k : Nat) (hk : c.hid = some k) : k < H.length := by
  rcases h with rfl | rfl | ⟨k', off, o, rfl, h2, _⟩
  · cases hk
  · cases hk
  · simp only [C.hid, Option.some.injEq] at hk; subst hk; exact hGet_lt h2
theorem RdR.len {H : Hp} {c : C} {r : Row} (h : RdR H c r) : hLen c = some r.length := by
  rcases h with rfl | rfl | ⟨k, off, o, rfl, _⟩
  · simp [hLen]
  · simp [hLen]
  · rfl
theorem RdR.hok {H : Hp} {c : C} {r : Row} (h : RdR H c r) : c.hok = true := by
  rcases h with rfl | rfl | ⟨k, off, o, rfl, _⟩ <;> rfl
theorem hAt_rD (r : Row) (j : Nat) (h : j < r.length) : hAt (rD r) (j : Int) = some (.d (.pp [.s r[j]])) := by
  unfold hAt; rw [if_pos (by omega), Int.toNat_natCast]; simp [rD, h]
theorem RdR.at {H : Hp} {c : C} {r : Row} (h : RdR H c r) (j : Nat) (hj : j < r.length) : ∃ p, hAddr c (j : Int) = some p ∧ hLoad H p = some (sC r[j]) := by
  rcases h with rfl | rfl | ⟨k, off, o, rfl, h2, h3, h4⟩
  · exact ⟨_, hAt_rD r j hj, rfl⟩
  · exact ⟨_, hAt_rD r j hj, rfl⟩
  · refine ⟨.hp k (off + j), ?_, ?_⟩
    · simp only [hAddr]; rw [if_pos (by omega)]; simp
    · simp only [hLoad, h2, Option.bind_some]; exact h4 j _ (List.getElem?_eq_getElem hj)
theorem RdR.cells {H : Hp} {c : C} {r : Row} (h : RdR H c r) : hCells H c = some (r.map sC) := by
  rcases h with rfl | rfl | ⟨k, off, o, rfl, h2, h3, h4⟩
  · exact hCells_rD H r
  · exact hCells_full H r
  · simp only [hCells, h2, Option.bind_some]
    rw [if_pos h3]
    congr 1
    apply List.ext_getElem?
    intro j
    rw [List.getElem?_take, List.getElem?_map]
    split
    · rename_i hlt
      rw [List.getElem?_drop, h4 j _ (List.getElem?_eq_getElem hlt), List.getElem?_eq_getElem hlt]; rfl
    · rename_i hge
      rw [List.getElem?_eq_none (by omega : r.length ≤ j)]; rfl
theorem RdR.low {H : Hp} {c : C} {r : Row} (h : RdR H c r) (n : Nat) : hLow H (n + 1) c = some (.sl (rD r)) := by
  have hc := h.cells
  rcases h with rfl | rfl | ⟨k, off, o, rfl, h2, h3, h4⟩
  · rfl
  · rfl
  · simp only [hCells, h2, Option.bind_some, if_pos h3, Option.some.injEq] at hc
    simp only [hLow, h2, Option.bind_some, if_pos h3, hc, xmapC_sC, Option.map_some, List.map_map]
    rfl
/-- A part of a row. -/
theorem RdR.sub {H : Hp} {c : C} {r : Row} (h : RdR H c r) (a b : Nat) (hab : a ≤ b) (hb : b ≤ r.length) : ∃ c', hSub c (a : Int) (b : Int) = some c' ∧ RdR H c' ((r.take b).drop a) ∧ ∀ k, c'.hid = some k → c.hid = some k := by
  have hD : ∀ es : List (List D), es = rD r → (∀ y ∈ es, y.length = 1) ∧ ((es.take b).drop a) = rD ((r.take b).drop a) := fun es he => by
    subst he
    refine ⟨fun y hy => by simp only [rD, List.mem_map] at hy; obtain ⟨s, _, rfl⟩ := hy; rfl, by simp [rD, List.map_take, List.map_drop]⟩
  rcases h with rfl | rfl | ⟨k, off, o, rfl, h2, h3, h4⟩
  · obtain ⟨e1, e2⟩ := hD _ rfl
    refine ⟨.d (.sl (rD ((r.take b).drop a))), ?_, .inl rfl, fun k hk => by cases hk⟩
    simp only [hSub]; rw [if_pos ⟨e1, by omega, by omega, by simp; omega⟩, Int.toNat_natCast, Int.toNat_natCast, e2]
  · obtain ⟨e1, e2⟩ := hD _ rfl
    refine ⟨.d (.sl (rD ((r.take b).drop a))), ?_, .inl rfl, fun k hk => by cases hk⟩
    simp only [hSub]; rw [if_pos ⟨e1, by omega, by omega, by simp; omega⟩, Int.toNat_natCast, Int.toNat_natCast, e2]
  · have hl : ((r.take b).drop a).length = b - a := by simp; omega
    refine ⟨.hs k (off + a) (b - a), ?_, .inr (.inr ⟨k, off + a, o, by rw [hl], h2, by rw [hl]; omega, fun j s hj => ?_⟩), fun k hk => hk⟩
    · simp only [hSub]; rw [if_pos (by omega)]; simp
    · rw [List.getElem?_drop, List.getElem?_take] at hj
      split at hj
      · rw [Nat.add_assoc]; exact h4 _ _ hj
      · cases hj

/-- A row in a block of its own that may grow: above a number. -/
def OwR (n : Nat) (H : Hp) (c : C) (r : Row) : Prop :=
  (r = [] ∧ c = .full []) ∨ ∃ k, n ≤ k ∧ c = .hs k 0 r.length ∧ hGet H k = some ⟨r.map sC, false⟩
theorem OwR.rd {n : Nat} {H : Hp} {c : C} {r : Row} (h : OwR n H c r) : RdR H c r := by
  rcases h with ⟨rfl, rfl⟩ | ⟨k, _, rfl, h2⟩
  · exact .inr (.inl rfl)
  · exact .inr (.inr ⟨k, 0, _, rfl, h2, by simp, fun j s hj => by simp [hj]⟩)
theorem OwR.hid {n : Nat} {H : Hp} {c : C} {r : Row} (h : OwR n H c r) (k : Nat) (hk : c.hid = some k) : n ≤ k := by
  rcases h with ⟨rfl, rfl⟩ | ⟨k', h1, rfl, _⟩
  · cases hk
  · simp only [C.hid, Option.some.injEq] at hk; omega
theorem cp_own (r : Row) (H : Hp) : OwR H.length (cpH r H) (cpC r H) r := by
  cases r with
  | nil => exact .inl ⟨rfl, rfl⟩
  | cons s q => exact .inr ⟨H.length, Nat.le_refl _, rfl, hGet_push H _⟩
theorem cp_ext (r : Row) {n : Nat} {H : Hp} (h : n ≤ H.length) : Ext n H (cpH r H) := by
  cases r with
  | nil => exact .refl h
  | cons s q => exact .push h _
theorem OwR.keep {n : Nat} {H H' : Hp} {c : C} {r : Row} (h : OwR n H c r) (hk : ∀ k, c.hid = some k → hGet H' k = hGet H k) : OwR n H' c r := by
  rcases h with h | ⟨k, h1, h2, h3⟩
  · exact .inl h
  · exact .inr ⟨k, h1, h2, by rw [hk k (by rw [h2]; rfl)]; exact h3⟩

/-- A row made longer. -/
theorem OwR.app {n : Nat} {H : Hp} {c : C} {r : Row} (h : OwR n H c r) (hn : n ≤ H.length) (q : Row) : ∃ c' H', hApp H c (q.map sC) = some (c', H') ∧ OwR n H' c' (r ++ q) ∧ Ext n H H' := by
  cases q with
  | nil =>
    rw [List.append_nil]
    refine ⟨c, H, ?_, h, .refl hn⟩
    rcases h with ⟨rfl, rfl⟩ | ⟨k, _, rfl, _⟩ <;> rfl
  | cons s q =>
    rcases h with ⟨rfl, rfl⟩ | ⟨k, h1, rfl, h2⟩
    · refine ⟨.hs H.length 0 (q.length + 1), H ++ [some ⟨(s :: q).map sC, false⟩], ?_, .inr ⟨H.length, hn, rfl, hGet_push H _⟩, .push hn _⟩
      simp [hApp, xOnes]
    · have hkl := hGet_lt h2
      refine ⟨.hs H.length 0 (r.length + (q.length + 1)), H.set k none ++ [some ⟨(r ++ s :: q).map sC, false⟩], ?_, .inr ⟨H.length, hn, by simp, by have := hGet_push (H.set k none) ⟨(r ++ s :: q).map sC, false⟩; simpa using this⟩, ?_⟩
      · simp only [List.map_cons, hApp, h2, Option.bind_some]
        rw [if_pos (by simp), if_neg (by simp), if_neg (by simp), if_pos trivial]
        simp [List.map_append, List.take_of_length_le]
      · exact (Ext.set hn h1 none).trans (.push (by simpa using hn) _)

/-! Tables. -/
/-- A table as it is read. -/
def RdT (H : Hp) (c : C) (t : Tab) : Prop :=
  c = .d (.sl (tD t)) ∨ (t = [] ∧ c = .full []) ∨ ∃ k off o, c = .hs k off t.length ∧ hGet H k = some o ∧ off + t.length ≤ o.cs.length ∧ ∀ (i : Nat) (r : Row), t[i]? = some r → ∃ rc, o.cs[off + i]? = some rc ∧ RdR H rc r
theorem RdT.data (H : Hp) (t : Tab) : RdT H (.d (.sl (tD t))) t := .inl rfl
theorem RdT.ext {H H' : Hp} {c : C} {t : Tab} (h : RdT H c t) (hx : Ext H.length H H') : RdT H' c t := by
  rcases h with h | h | ⟨k, off, o, h1, h2, h3, h4⟩
  · exact .inl h
  · exact .inr (.inl h)
  · refine .inr (.inr ⟨k, off, o, h1, by rw [hx.2 k (hGet_lt h2)]; exact h2, h3, fun i r hr => ?_⟩)
    obtain ⟨rc, g1, g2⟩ := h4 i r hr
    exact ⟨rc, g1, g2.ext hx g2.lt⟩
theorem RdT.len {H : Hp} {c : C} {t : Tab} (h : RdT H c t) : hLen c = some t.length := by
  rcases h with rfl | ⟨rfl, rfl⟩ | ⟨k, off, o, rfl, _⟩
  · simp [hLen]
  · rfl
  · rfl
theorem RdT.hok {H : Hp} {c : C} {t : Tab} (h : RdT H c t) : c.hok = true := by
  rcases h with rfl | ⟨rfl, rfl⟩ | ⟨k, off, o, rfl, _⟩ <;> rfl
theorem hAt_tD (t : Tab) (j : Nat) (h : j < t.length) : hAt (tD t) (j : Int) = some (.d (.pp [.sl (rD t[j])])) := by
  unfold hAt; rw [if_pos (by omega), Int.toNat_natCast]; simp [tD, h]
theorem RdT.at {H : Hp} {c : C} {t : Tab} (h : RdT H c t) (i : Nat) (hi : i < t.length) : ∃ p rc, hAddr c (i : Int) = some p ∧ hLoad H p = some rc ∧ RdR H rc t[i] := by
  rcases h with rfl | ⟨rfl, rfl⟩ | ⟨k, off, o, rfl, h2, h3, h4⟩
  · exact ⟨_, _, hAt_tD t i hi, rfl, .inl rfl⟩
  · simp at hi
  · obtain ⟨rc, g1, g2⟩ := h4 i _ (List.getElem?_eq_getElem hi)
    refine ⟨.hp k (off + i), rc, ?_, ?_, g2⟩
    · simp only [hAddr]; rw [if_pos (by omega)]; simp
    · simp only [hLoad, h2, Option.bind_some]; exact g1
theorem RdT.sub {H : Hp} {c : C} {t : Tab} (h : RdT H c t) (a b : Nat) (hab : a ≤ b) (hb : b ≤ t.length) : ∃ c', hSub c (a : Int) (b : Int) = some c' ∧ RdT H c' ((t.take b).drop a) := by
  have hD : (∀ y ∈ tD t, y.length = 1) ∧ (((tD t).take b).drop a) = tD ((t.take b).drop a) :=
    ⟨fun y hy => by simp only [tD, List.mem_map] at hy; obtain ⟨s, _, rfl⟩ := hy; rfl, by simp [tD, List.map_take, List.map_drop]⟩
  rcases h with rfl | ⟨rfl, rfl⟩ | ⟨k, off, o, rfl, h2, h3, h4⟩
  · refine ⟨.d (.sl (tD ((t.take b).drop a))), ?_, .inl rfl⟩
    simp only [hSub]; rw [if_pos ⟨hD.1, by omega, by omega, by simp; omega⟩, Int.toNat_natCast, Int.toNat_natCast, hD.2]
  · simp at hb
    obtain rfl : b = 0 := by omega
    obtain rfl : a = 0 := by omega
    exact ⟨.d (.sl []), by simp [hSub], .inl rfl⟩
  · have hl : ((t.take b).drop a).length = b - a := by simp; omega
    refine ⟨.hs k (off + a) (b - a), ?_, .inr (.inr ⟨k, off + a, o, by rw [hl], h2, by rw [hl]; omega, fun j s hj => ?_⟩)⟩
    · simp only [hSub]; rw [if_pos (by omega)]; simp
    · rw [List.getElem?_drop, List.getElem?_take] at hj
      split at hj
      · rw [Nat.add_assoc]; exact h4 _ _ hj
      · cases hj
/-- The cells of a table, one by one. -/
theorem RdT.cells {H : Hp} {c : C} {t : Tab} (h : RdT H c t) : ∃ cs, hCells H c = some cs ∧ cs.length = t.length ∧ ∀ (i : Nat) (r : Row), t[i]? = some r → ∃ rc, cs[i]? = some rc ∧ RdR H rc r := by
  have hx : ∀ t : Tab, xOnes (tD t) = some (t.map fun r => .sl (rD r)) := fun t => by
    induction t with
    | nil => rfl
    | cons r t ih => show (xOnes (tD t)).map _ = _; rw [ih]; rfl
  rcases h with rfl | ⟨rfl, rfl⟩ | ⟨k, off, o, rfl, h2, h3, h4⟩
  · refine ⟨t.map fun r => .d (.sl (rD r)), ?_, by simp, fun i r hr => ⟨.d (.sl (rD r)), by simp [hr], .inl rfl⟩⟩
    simp only [hCells, hx, Option.map_some, List.map_map]; rfl
  · exact ⟨[], rfl, rfl, fun i r hr => by simp at hr⟩
  · refine ⟨(o.cs.drop off).take t.length, by simp only [hCells, h2, Option.bind_some, if_pos h3], by simp; omega, fun i r hr => ?_⟩
    obtain ⟨rc, g1, g2⟩ := h4 i r hr
    have hlt := (List.getElem?_eq_some_iff.1 hr).1
    exact ⟨rc, by rw [List.getElem?_take, if_pos hlt, List.getElem?_drop]; exact g1, g2⟩
theorem xmapC_rows {H : Hp} {n : Nat} : ∀ {cs : List C} {t : Tab}, cs.length = t.length → (∀ (i : Nat) (r : Row), t[i]? = some r → ∃ rc, cs[i]? = some rc ∧ RdR H rc r) → xmapC (hLow H (n + 1)) cs = some (t.map fun r => .sl (rD r))
  | [], [], _, _ => rfl
  | c :: cs, r :: t, hl, h => by
    obtain ⟨rc, h1, h2⟩ := h 0 r rfl
    simp only [List.getElem?_cons_zero, Option.some.injEq] at h1
    subst h1
    have ih := xmapC_rows (H := H) (n := n) (cs := cs) (t := t) (by simpa using hl) fun i r hr => by simpa using h (i + 1) r (by simpa using hr)
    simp only [xmapC, h2.low n, ih, Option.bind_some, List.map_cons]
theorem RdT.low {H : Hp} {c : C} {t : Tab} (h : RdT H c t) (n : Nat) : hLow H (n + 2) c = some (.sl (tD t)) := by
  obtain ⟨cs, hc, hl, hr⟩ := h.cells
  have hm := xmapC_rows (n := n) hl hr
  rcases h with rfl | ⟨rfl, rfl⟩ | ⟨k, off, o, rfl, h2, h3, h4⟩
  · rfl
  · rfl
  · simp only [hCells, h2, Option.bind_some, if_pos h3, Option.some.injEq] at hc
    subst hc
    have e : hLow H (n + 2) (.hs k off t.length) = (hGet H k).bind fun o => if off + t.length ≤ o.cs.length then (xmapC (hLow H (n + 1)) ((o.cs.drop off).take t.length)).map fun ds => .sl (ds.map fun d => [d]) else none := rfl
    rw [e, h2, Option.bind_some, if_pos h3, hm, Option.map_some, List.map_map]
    rfl

/-- A table in a block of its own that may grow: above a number; its rows are in other blocks. -/
def OwT (n : Nat) (H : Hp) (c : C) (t : Tab) : Prop :=
  (t = [] ∧ c = .full []) ∨ ∃ k cs, n ≤ k ∧ c = .hs k 0 t.length ∧ hGet H k = some ⟨cs, false⟩ ∧ cs.length = t.length ∧ ∀ (i : Nat) (r : Row), t[i]? = some r → ∃ rc, cs[i]? = some rc ∧ RdR H rc r ∧ rc.hid ≠ some k ∧ ∀ q, rc.hid = some q → n ≤ q
theorem OwT.rd {n : Nat} {H : Hp} {c : C} {t : Tab} (h : OwT n H c t) : RdT H c t := by
  rcases h with ⟨rfl, rfl⟩ | ⟨k, cs, _, rfl, h2, h3, h4⟩
  · exact .inr (.inl ⟨rfl, rfl⟩)
  · refine .inr (.inr ⟨k, 0, _, rfl, h2, by simp [h3], fun i r hr => ?_⟩)
    obtain ⟨rc, g1, g2, _⟩ := h4 i r hr
    exact ⟨rc, by simpa using g1, g2⟩
theorem OwT.ext {n : Nat} {H H' : Hp} {c : C} {t : Tab} (h : OwT n H c t) (hx : Ext H.length H H') : OwT n H' c t := by
  rcases h with h | ⟨k, cs, h1, h2, h3, h4, h5⟩
  · exact .inl h
  · refine .inr ⟨k, cs, h1, h2, by rw [hx.2 k (hGet_lt h3)]; exact h3, h4, fun i r hr => ?_⟩
    obtain ⟨rc, g1, g2, g3⟩ := h5 i r hr
    exact ⟨rc, g1, g2.ext hx g2.lt, g3⟩

/-- Rows appended to a table: none of them in the table's own block. -/
theorem OwT.app {n : Nat} {H : Hp} {c : C} {t : Tab} (h : OwT n H c t) (hn : n ≤ H.length) (cs' : List C) (q : Tab) (hl : cs'.length = q.length) (hq : ∀ (i : Nat) (r : Row), q[i]? = some r → ∃ rc, cs'[i]? = some rc ∧ RdR H rc r ∧ ∀ k, rc.hid = some k → n ≤ k ∧ c.hid ≠ some k) :
    ∃ c' H', hApp H c cs' = some (c', H') ∧ OwT n H' c' (t ++ q) ∧ Ext n H H' := by
  cases cs' with
  | nil =>
    obtain rfl : q = [] := List.eq_nil_of_length_eq_zero hl.symm
    rw [List.append_nil]
    refine ⟨c, H, ?_, h, .refl hn⟩
    rcases h with ⟨rfl, rfl⟩ | ⟨k, cs, _, rfl, _⟩ <;> rfl
  | cons c1 cs' =>
    rcases h with ⟨rfl, rfl⟩ | ⟨k, cs, h1, rfl, h2, h3, h4⟩
    · refine ⟨.hs H.length 0 (cs'.length + 1), H ++ [some ⟨c1 :: cs', false⟩], by simp [hApp, xOnes], .inr ⟨H.length, c1 :: cs', hn, ?_, hGet_push H _, by simpa using hl, fun i r hr => ?_⟩, .push hn _⟩
      · simp only [List.length_cons] at hl; simp [hl]
      · obtain ⟨rc, g1, g2, g3⟩ := hq i r (by simpa using hr)
        refine ⟨rc, g1, g2.keep fun k hk => hGet_push_lt (g2.lt k hk) _, fun e => ?_, fun q hq => (g3 q hq).1⟩
        exact absurd (g2.lt _ e) (by omega)
    · have hkl := hGet_lt h2
      have hnew := hGet_push (H.set k none) ⟨cs ++ c1 :: cs', false⟩
      simp only [List.length_set] at hnew
      refine ⟨.hs H.length 0 (t.length + (cs'.length + 1)), H.set k none ++ [some ⟨cs ++ c1 :: cs', false⟩], ?_, .inr ⟨H.length, cs ++ c1 :: cs', hn, ?_, hnew, ?_, fun i r hr => ?_⟩, ?_⟩
      · simp only [hApp, h2, Option.bind_some]
        rw [if_pos (by simp [h3]), if_neg (by simp [h3]), if_neg (by simp), if_pos trivial]
        simp [List.take_of_length_le (by omega : cs.length ≤ t.length)]
      · simp only [List.length_cons] at hl; simp [hl]
      · simp only [List.length_cons] at hl; simp [h3, hl]
      · have kp : ∀ rc r, RdR H rc r → rc.hid ≠ some k → RdR (H.set k none ++ [some ⟨cs ++ c1 :: cs', false⟩]) rc r ∧ rc.hid ≠ some H.length := fun rc r g2 g3 => by
          refine ⟨g2.keep fun j hj => ?_, fun e => absurd (g2.lt _ e) (by omega)⟩
          have hjl := g2.lt j hj
          rw [hGet_push_lt (by simpa using hjl), hGet_set_ne (fun e => g3 (by rw [← e]; exact hj))]
        rw [List.getElem?_append] at hr
        split at hr
        · rename_i hlt
          obtain ⟨rc, g1, g2, g3, g4⟩ := h4 i r hr
          exact ⟨rc, by rw [List.getElem?_append_left (by omega)]; exact g1, (kp rc r g2 g3).1, (kp rc r g2 g3).2, g4⟩
        · rename_i hge
          obtain ⟨rc, g1, g2, g3⟩ := hq _ r hr
          have hne : rc.hid ≠ some k := fun e => (g3 k e).2 rfl
          exact ⟨rc, by rw [List.getElem?_append_right (by omega), h3]; exact g1, (kp rc r g2 hne).1, (kp rc r g2 hne).2, fun q hq => (g3 q hq).1⟩
      · exact (Ext.set hn h1 none).trans (.push (by simpa using hn) _)
end Go.Av

set_option linter.unusedSimpArgs false
namespace Go.Av

@[simp] theorem xS_s (l : Txt) : xS (.one (.d (.s l))) = some l := rfl

def colF (t : Tab) (k : Nat) : Row := t.map fun r => r.getD k []
theorem colF_snoc (t : Tab) (k i : Nat) (h : i < t.length) : colF (t.take (i + 1)) k = colF (t.take i) k ++ [t[i].getD k []] := by
  unfold colF; rw [List.take_succ_eq_append_getElem h, List.map_append]; rfl

theorem ref08_list_Ψ {H : Hp} {c : C} {r : Row} (h : RdR H c r) (hr : r.length ≤ 1000) (n : Nat) (hn : 1 ≤ n) : (O0 n).Ψ i_ref08_list [.one c] H = some (.one (cpC r H), cpH r H) := by
  obtain ⟨m, rfl⟩ := nat_succ (n := n) (k := 0) (by omega)
  rw [ref08_list_runH, ref08_list_gen c r hr H h.cells]

theorem ref08_column_gen {H : Hp} {c : C} {t : Tab} (h : RdT H c t) (ht : t.length ≤ 1000) (k : Nat) (hk : ∀ r ∈ t, k < r.length) (Φ : Phi) (Ψ : Psi) (f : Nat) (hf : 1001 ≤ f) :
    ∃ c' H', ref08_column Φ Ψ f c (k : Int) H = some (.one c', H') ∧ OwR H.length H' c' (colF t k) ∧ Ext H.length H H' := by
  rw [ref08_column, h.hok, xif_tt]
  have key := iter_ex (R := A × Hp) t.length (fun i (x : Hp × C × Int × C × Int × Unit) => ∃ H1 out, x = (H1, c, (k : Int), out, (i : Int), ()) ∧ OwR H.length H1 out (colF (t.take i) k) ∧ Ext H.length H H1) (fun p => ∃ c' H', p = (.one c', H') ∧ OwR H.length H' c' (colF t k) ∧ Ext H.length H H')
    (F := fun (x : Hp × C × Int × C × Int × Unit) (rec : (Hp × C × Int × C × Int × Unit) → Option (A × Hp)) => ref08_column_l0 Φ Ψ f (fun H8 t9 k10 out11 i12 => rec (H8, t9, k10, out11, i12, ())) x.1 x.2.1 x.2.2.1 x.2.2.2.1 x.2.2.2.2.1)
    (fun i x rec hi hx hrec => by
      obtain ⟨H1, out, rfl, ho, he⟩ := hx
      have h1 := h.ext he
      by_cases hlt : i < t.length
      · have hw := wrap_i (i + 1) (by omega) (by omega)
        have hlt' : (i : Int) < (t.length : Nat) := by omega
        obtain ⟨p, rc, a1, a2, a3⟩ := h1.at i hlt
        have hkr := hk _ (List.getElem_mem hlt)
        obtain ⟨p2, b1, b2⟩ := a3.at k hkr
        obtain ⟨c2, H2, d1, d2, d3⟩ := ho.app he.1 [t[i][k]]
        have hlen : (colF (t.take i) k).length = i := by simp [colF]; omega
        have hsz : ((colF (t.take i) k).length + ([t[i][k]].map sC).length) * 16 ≤ 140737488355328 := by rw [hlen]; simp; omega
        have hgd : t[i].getD k [] = t[i][k] := by simp [hkr]
        have hcl := hCells_full H1 [t[i][k]]
        rw [show rD [t[i][k]] = [[D.s t[i][k]]] from rfl] at hcl
        simp only [ref08_column_l0, h1.len, Option.bind_some, xite_decide, hlt', if_true, a1, a2, b1, b2, xS_s, ho.rd.len, hcl, hsz, decide_true, xif_tt, d1, h1.hok, d2.rd.hok, hw]
        exact hrec _ hlt ⟨H2, c2, rfl, by rw [colF_snoc t k i hlt, hgd]; exact d2, he.trans d3⟩
      · have hlt' : ¬ (i : Int) < (t.length : Nat) := by omega
        have hok : xokR (.one out) = true := ho.rd.hok
        rw [List.take_of_length_le (by omega)] at ho
        simp only [ref08_column_l0, h1.len, Option.bind_some, xite_decide, hlt', if_false, hok, xif_tt]
        exact ⟨_, rfl, out, H1, rfl, ho, he⟩) f 0 (H, c, (k : Int), .full [], (0 : Int), ()) (by omega) (by omega) ⟨H, .full [], rfl, .inl ⟨rfl, rfl⟩, .refl (Nat.le_refl _)⟩
  obtain ⟨_, hr, c', H', rfl, h1, h2⟩ := key
  exact ⟨c', H', hr, h1, h2⟩
theorem ref08_column_Ψ {H : Hp} {c : C} {t : Tab} (h : RdT H c t) (ht : t.length ≤ 1000) (k : Nat) (hk : ∀ r ∈ t, k < r.length) (n : Nat) (hn : 1002 ≤ n) :
    ∃ c' H', (O0 n).Ψ i_ref08_column [.one c, aI k] H = some (.one c', H') ∧ OwR H.length H' c' (colF t k) ∧ Ext H.length H H' := by
  obtain ⟨m, rfl⟩ := nat_succ (n := n) (k := 0) (by omega)
  obtain ⟨c', H', h1, h2, h3⟩ := ref08_column_gen h ht k hk (O0 m).Φ (O0 m).Ψ m (by omega)
  exact ⟨c', H', by rw [ref08_column_runH]; exact h1, h2, h3⟩
theorem ref08_column_spec (t : Tab) (ht : t.length ≤ 1000) (k : Nat) (hk : ∀ r ∈ t, k < r.length) (n : Nat) (hn : 1002 ≤ n) : (O0 n).Φ i_ref08_column [aT t, aI k] = some (aR (colF t k)) := by
  obtain ⟨m, rfl⟩ := nat_succ (n := n) (k := 0) (by omega)
  obtain ⟨c', H', h1, h2, h3⟩ := ref08_column_gen (RdT.data [] t) ht k hk (O0 m).Φ (O0 m).Ψ m (by omega)
  rw [ref08_column_run, h1, Option.bind_some]
  simp only [xlowR, h2.rd.low 2, Option.bind_some]

theorem RdT.lt {H : Hp} {c : C} {t : Tab} (h : RdT H c t) (k : Nat) (hk : c.hid = some k) : k < H.length := by
  rcases h with rfl | ⟨rfl, rfl⟩ | ⟨k', off, o, rfl, h2, _⟩
  · cases hk
  · cases hk
  · simp only [C.hid, Option.some.injEq] at hk; subst hk; exact hGet_lt h2
theorem oneCs_one {c : C} (h : c.hok = true) : oneCs [.one c] = some [c] := by simp [oneCs, h]
theorem hCells_box (H : Hp) (c : C) : hCells (H ++ [some ⟨[c], true⟩]) (.hs H.length 0 1) = some [c] := by
  simp only [hCells, hGet_push, Option.bind_some]; rfl
/-- A row appended to a table. -/
theorem OwT.row {n : Nat} {H : Hp} {c : C} {t : Tab} (h : OwT n H c t) (hn : n ≤ H.length) {rc : C} {r : Row} (hr : RdR H rc r) (hid : ∀ k, rc.hid = some k → n ≤ k ∧ c.hid ≠ some k) :
    ∃ c' H', hApp (H ++ [some ⟨[rc], true⟩]) c [rc] = some (c', H') ∧ OwT n H' c' (t ++ [r]) ∧ Ext n H H' := by
  have hx : Ext H.length H (H ++ [some ⟨[rc], true⟩]) := .push (Nat.le_refl _) _
  obtain ⟨c', H', h1, h2, h3⟩ := (h.ext hx).app (by simp; omega) [rc] [r] rfl (fun i q hq => by
    cases i with
    | zero => simp at hq; subst hq; exact ⟨rc, rfl, hr.ext hx hr.lt, hid⟩
    | succ i => simp at hq)
  exact ⟨c', H', h1, h2, (hx.le hn).trans h3⟩

/-! Copies of a table. -/
theorem ref08_table_gen {H : Hp} {c : C} {t : Tab} (h : RdT H c t) (ht : t.length ≤ 1000) (hr : ∀ r ∈ t, r.length ≤ 1000) (n : Nat) (hn : 1 ≤ n) (f : Nat) (hf : 1001 ≤ f) :
    ∃ c' H', ref08_table (O0 n).Φ (O0 n).Ψ f c H = some (.one c', H') ∧ OwT H.length H' c' t ∧ Ext H.length H H' := by
  rw [ref08_table, h.hok, xif_tt]
  have key := iter_ex (R := A × Hp) t.length (fun i (x : Hp × C × C × Int × Unit) => ∃ H1 out, x = (H1, c, out, (i : Int), ()) ∧ OwT H.length H1 out (t.take i) ∧ Ext H.length H H1) (fun p => ∃ c' H', p = (.one c', H') ∧ OwT H.length H' c' t ∧ Ext H.length H H')
    (F := fun (x : Hp × C × C × Int × Unit) (rec : (Hp × C × C × Int × Unit) → Option (A × Hp)) => ref08_table_l0 (O0 n).Φ (O0 n).Ψ f (fun a b c d => rec (a, b, c, d, ())) x.1 x.2.1 x.2.2.1 x.2.2.2.1)
    (fun i x rec hi hx hrec => by
      obtain ⟨H1, out, rfl, ho, he⟩ := hx
      have h1 := h.ext he
      by_cases hlt : i < t.length
      · have hw := wrap_i (i + 1) (by omega) (by omega)
        have hlt' : (i : Int) < (t.length : Nat) := by omega
        obtain ⟨p, rc, a1, a2, a3⟩ := h1.at i hlt
        have hl := ref08_list_Ψ a3 (hr _ (List.getElem_mem hlt)) n hn
        have hx1 : Ext H1.length H1 (cpH t[i] H1) := cp_ext t[i] (Nat.le_refl _)
        have hown := cp_own t[i] H1
        have ho1 := ho.ext hx1
        obtain ⟨c2, H2, d1, d2, d3⟩ := ho1.row (Nat.le_trans he.1 hx1.1) hown.rd (fun k hk => ⟨by have := hown.hid k hk; have := he.1; omega, fun e => by
          have := hown.hid k hk
          have := ho.rd.lt k e
          omega⟩)
        have hlen : (t.take i).length = i := by simp; omega
        have hsz : ((t.take i).length + [cpC t[i] H1].length) * 24 ≤ 140737488355328 := by rw [hlen]; simp; omega
        simp only [ref08_table_l0, h1.len, Option.bind_some, xite_decide, hlt', if_true, a1, a2, a3.hok, xif_tt, hl, xone_one, oneCs_one (cp_hok t[i] H1), hPush, ho1.rd.len, hCells_box, hsz, decide_true, d1, h1.hok, d2.rd.hok, hw]
        exact hrec _ hlt ⟨H2, c2, rfl, by rw [List.take_succ_eq_append_getElem hlt]; exact d2, he.trans ((hx1.le he.1).trans d3)⟩
      · have hlt' : ¬ (i : Int) < (t.length : Nat) := by omega
        have hok : xokR (.one out) = true := ho.rd.hok
        rw [List.take_of_length_le (by omega)] at ho
        simp only [ref08_table_l0, h1.len, Option.bind_some, xite_decide, hlt', if_false, hok, xif_tt]
        exact ⟨_, rfl, out, H1, rfl, ho, he⟩) f 0 (H, c, .full [], (0 : Int), ()) (by omega) (by omega) ⟨H, .full [], rfl, .inl ⟨rfl, rfl⟩, .refl (Nat.le_refl _)⟩
  obtain ⟨_, hr, c', H', rfl, h1, h2⟩ := key
  exact ⟨c', H', hr, h1, h2⟩
theorem ref08_table_Ψ {H : Hp} {c : C} {t : Tab} (h : RdT H c t) (ht : t.length ≤ 1000) (hr : ∀ r ∈ t, r.length ≤ 1000) (n : Nat) (hn : 1002 ≤ n) :
    ∃ c' H', (O0 n).Ψ i_ref08_table [.one c] H = some (.one c', H') ∧ OwT H.length H' c' t ∧ Ext H.length H H' := by
  obtain ⟨m, rfl⟩ := nat_succ (n := n) (k := 0) (by omega)
  obtain ⟨c', H', h1, h2, h3⟩ := ref08_table_gen h ht hr m (by omega) m (by omega)
  exact ⟨c', H', by rw [ref08_table_runH]; exact h1, h2, h3⟩

/-! The transpose. -/
def trF (t : Tab) : Tab := if chk t ≠ 0 then [] else (List.range (cols t)).map (colF t)

theorem ref08_Transpose_gen {H : Hp} {c : C} {t : Tab} (h : RdT H c t) (n : Nat) (hn : 1100 ≤ n) (f : Nat) (hf : 1001 ≤ f) :
    ∃ c' H', ref08_Transpose (O0 n).Φ (O0 n).Ψ f c H = some (.one c', H') ∧ OwT H.length H' c' (trF t) ∧ Ext H.length H H' := by
  have hc := ref08_Check_spec t n (by omega)
  simp only [ref08_Transpose, h.low 1, Option.bind_some, hc, xAD_d, xDI_v, xite_decide, xite_not, h.hok, xif_tt]
  unfold trF
  by_cases h0 : chk t = 0
  · simp only [h0, if_true, ne_eq, not_true, if_false]
    have hlen := chk_len h0
    have hrows := chk_row h0
    have hcols := chk_cols h0
    have key := iter_ex (R := A × Hp) (cols t) (fun i (x : Hp × C × C × Int × Unit) => ∃ H1 out, x = (H1, c, out, (i : Int), ()) ∧ OwT H.length H1 out ((List.range i).map (colF t)) ∧ Ext H.length H H1) (fun p => ∃ c' H', p = (.one c', H') ∧ OwT H.length H' c' ((List.range (cols t)).map (colF t)) ∧ Ext H.length H H')
      (F := fun (x : Hp × C × C × Int × Unit) (rec : (Hp × C × C × Int × Unit) → Option (A × Hp)) => ref08_Transpose_l0 (O0 n).Φ (O0 n).Ψ f (fun a b c d => rec (a, b, c, d, ())) x.1 x.2.1 x.2.2.1 x.2.2.2.1)
      (fun i x rec hi hx hrec => by
        obtain ⟨H1, out, rfl, ho, he⟩ := hx
        have h1 := h.ext he
        have hcs := ref08_Columns_spec t n (by omega)
        by_cases hlt : i < cols t
        · have hw := wrap_i (i + 1) (by omega) (by omega)
          have hlt' : (i : Int) < cols t := by omega
          obtain ⟨rc, Hq, e1, e2, e3⟩ := ref08_column_Ψ h1 (by omega) i (fun r hr => by have := (hrows r hr).2.2.1; omega) n (by omega)
          have ho1 := ho.ext e3
          obtain ⟨c2, H2, d1, d2, d3⟩ := ho1.row (Nat.le_trans he.1 e3.1) e2.rd (fun k hk => ⟨by have := e2.hid k hk; have := he.1; omega, fun e => by
            have := e2.hid k hk
            have := ho.rd.lt k e
            omega⟩)
          have hsz : (((List.range i).map (colF t)).length + [rc].length) * 24 ≤ 140737488355328 := by simp; omega
          simp only [ref08_Transpose_l0, h1.low 1, Option.bind_some, hcs, xAD_d, xDI_v, xite_decide, hlt', if_true, h1.hok, xif_tt, e1, xone_one, oneCs_one e2.rd.hok, hPush, ho1.rd.len, hCells_box, hsz, decide_true, d1, d2.rd.hok, hw]
          exact hrec _ hlt ⟨H2, c2, rfl, by rw [List.range_succ, List.map_append]; exact d2, he.trans ((e3.le he.1).trans d3)⟩
        · have hlt' : ¬ (i : Int) < cols t := by omega
          have hok : xokR (.one out) = true := ho.rd.hok
          obtain rfl : i = cols t := by omega
          simp only [ref08_Transpose_l0, h1.low 1, hcs, xAD_d, xDI_v, Option.bind_some, xite_decide, hlt', if_false, hok, xif_tt]
          exact ⟨_, rfl, out, H1, rfl, ho, he⟩) f 0 (H, c, .full [], (0 : Int), ()) (by omega) (by omega) ⟨H, .full [], rfl, .inl ⟨rfl, rfl⟩, .refl (Nat.le_refl _)⟩
    obtain ⟨_, hr, c', H', rfl, h1, h2⟩ := key
    exact ⟨c', H', hr, h1, h2⟩
  · simp only [h0, if_false, ne_eq, not_false_eq_true, if_true]
    exact ⟨_, _, rfl, .inl ⟨rfl, rfl⟩, .refl (Nat.le_refl _)⟩
theorem ref08_Transpose_Ψ {H : Hp} {c : C} {t : Tab} (h : RdT H c t) (n : Nat) (hn : 1101 ≤ n) :
    ∃ c' H', (O0 n).Ψ i_ref08_Transpose [.one c] H = some (.one c', H') ∧ OwT H.length H' c' (trF t) ∧ Ext H.length H H' := by
  obtain ⟨m, rfl⟩ := nat_succ (n := n) (k := 0) (by omega)
  obtain ⟨c', H', h1, h2, h3⟩ := ref08_Transpose_gen h m (by omega) m (by omega)
  exact ⟨c', H', by rw [ref08_Transpose_runH]; exact h1, h2, h3⟩
theorem ref08_Transpose_spec (t : Tab) (n : Nat) (hn : 1101 ≤ n) : (O0 n).Φ i_ref08_Transpose [aT t] = some (aT (trF t)) := by
  obtain ⟨m, rfl⟩ := nat_succ (n := n) (k := 0) (by omega)
  obtain ⟨c', H', h1, h2, h3⟩ := ref08_Transpose_gen (RdT.data [] t) m (by omega) m (by omega)
  rw [ref08_Transpose_run, h1, Option.bind_some]
  simp only [xlowR, h2.rd.low 1, Option.bind_some]
end Go.Av
