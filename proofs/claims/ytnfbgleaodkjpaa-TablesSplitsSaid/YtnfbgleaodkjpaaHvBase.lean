/-
  Abstract values (pure data as lists), their relation to a world, and how that relation is kept while the world grows. Over any program. No toy.
-/
import Derived.WalkKit
import Derived.Laws.AppendOwn
import Derived.Below
set_option linter.all false
namespace Go.Av
open Go.RowKit

/-- Pure data: never written again. -/
inductive D where
  | v (x : Value)
  | s (l : List UInt8)
  | sl (es : List (List D))
  | pp (cs : List D)
  | clo (f : FuncId) (caps : List D)

/-- One cell of an abstract state. -/
inductive C where
  | d (x : D)
  | full (es : List (List D))
  | app (es : List (List D)) (k : Nat)
  | ref (id off : Nat)
  | msl (id off len cap sz : Nat)
  | clo (f : FuncId) (ids : List Nat)
  | any
  | hs (k off len : Nat)
  | hp (k off : Nat)
  | hclo (f : FuncId) (ks : List Nat)
  | mp (id : Nat)

inductive A where
  | one (c : C)
  | agg (cs : List C)
  | tup (as : List A)
  | any

instance : Inhabited D := ⟨.v (.tuple #[])⟩
instance : Inhabited C := ⟨.any⟩
instance : Inhabited A := ⟨.any⟩

abbrev WSet := Nat → Nat → Prop

/-- What a pure datum is in a world; none of its cells may be written (W). -/
inductive RepD (w : World) (W : WSet) : D → Value → Prop where
  | v (x : Value) (h : x.oneCell' = true) : RepD w W (.v x) x
  | s (l : List UInt8) : RepD w W (.s l) (.string ⟨l.toArray⟩)
  | nil (a : Option Addr) (cap : Nat) : RepD w W (.sl []) (.slice a 0 cap)
  | sl (es : List (List D)) (sz b off cap : Nat) (f : Nat → Value) (hsz : ∀ e ∈ es, e.length = sz) (hcap : es.length ≤ cap)
      (hc : ∀ k, k < es.flatten.length → w.cell? ⟨b, off + k, none⟩ = some (f k) ∧ ¬ W b (off + k))
      (hr : ∀ k c, es.flatten[k]? = some c → RepD w W c (f k)) : RepD w W (.sl es) (.slice (some ⟨b, off, none⟩) es.length cap)
  | pp (cs : List D) (b off : Nat) (f : Nat → Value)
      (hc : ∀ k, k < cs.length → w.cell? ⟨b, off + k, none⟩ = some (f k) ∧ ¬ W b (off + k))
      (hr : ∀ k c, cs[k]? = some c → RepD w W c (f k)) : RepD w W (.pp cs) (.pointer (some ⟨b, off, none⟩))
  | clo (g : FuncId) (caps : List D) (vs : List Value) (hl : vs.length = caps.length)
      (hr : ∀ k c, caps[k]? = some c → RepD w W c (vs.getD k undef)) : RepD w W (.clo g caps) (.func (.func g) #[] vs.toArray)

/-- The world has kept every cell that may not be written, and lets none of them be written. -/
def Keeps (w : World) (W : WSet) (w' : World) (W' : WSet) : Prop :=
  ∀ b o u, w.cell? ⟨b, o, none⟩ = some u → ¬ W b o → w'.cell? ⟨b, o, none⟩ = some u ∧ ¬ W' b o

theorem Keeps.refl (w : World) (W : WSet) : Keeps w W w W := fun _ _ _ h k => ⟨h, k⟩
theorem Keeps.trans {w1 w2 w3 : World} {W1 W2 W3 : WSet} (h : Keeps w1 W1 w2 W2) (k : Keeps w2 W2 w3 W3) : Keeps w1 W1 w3 W3 :=
  fun b o u a c => let ⟨x, y⟩ := h b o u a c; k b o u x y
theorem Keeps.anti {w : World} {W W' : WSet} (h : ∀ b o, W' b o → W b o) : Keeps w W w W' := fun b o _ a c => ⟨a, fun k => c (h b o k)⟩

theorem RepD.keep {w w' : World} {W W' : WSet} {d : D} {v : Value} (h : RepD w W d v) (k : Keeps w W w' W') : RepD w' W' d v := by
  induction h with
  | v x hx => exact .v x hx
  | s l => exact .s l
  | nil a cap => exact .nil a cap
  | sl es sz b off cap f hsz hcap hc hr ih => exact .sl es sz b off cap f hsz hcap (fun j hj => let ⟨x, y⟩ := hc j hj; k _ _ _ x y) ih
  | pp cs b off f hc hr ih => exact .pp cs b off f (fun j hj => let ⟨x, y⟩ := hc j hj; k _ _ _ x y) ih
  | clo g caps vs hl hr ih => exact .clo g caps vs hl ih

theorem RepD.oneCell {w : World} {W : WSet} {d : D} {v : Value} (h : RepD w W d v) : v.oneCell' = true := by
  cases h <;> first | assumption | rfl

/-- A token of a slice that is appended to: its value now. -/
structure Tip where
  base : Option Addr
  len : Nat
  cap : Nat
  elem : TypeId
  sz : Nat

/-- How the abstract names lie in the world. -/
structure Env where
  n : Nat
  β : Nat → Nat
  τ : Nat → Option Tip
  hn : Nat := 0
  γ : Nat → Nat := fun _ => 0
  gs : Nat → Nat := fun _ => 0

def Tie (E : Env) (k len : Nat) (v : Value) : Prop := ∀ T, E.τ k = some T → len ≤ T.len ∧ (len = T.len → v = .slice T.base T.len T.cap)

def RepC (w : World) (W : WSet) (E : Env) : C → Value → Prop
  | .d x, v => RepD w W x v
  | .full es, v => RepD w W (.sl es) v ∧ ∃ a, v = .slice a es.length es.length
  | .app es k, v => RepD w W (.sl es) v ∧ k < E.n ∧ Tie E k es.length v
  | .ref id off, v => id < E.n ∧ v = .pointer (some ⟨E.β id, off, none⟩)
  | .msl id off len cap _, v => id < E.n ∧ v = .slice (some ⟨E.β id, off, none⟩) len cap
  | .clo f ids, v => (∀ id ∈ ids, id < E.n) ∧ v = .func (.func f) #[] (ids.map fun id => Value.pointer (some ⟨E.β id, 0, none⟩)).toArray
  | .any, v => v.oneCell' = true
  | .hs k off len, v => k < E.hn ∧ ∃ a cap, v = .slice a len cap ∧ (len = 0 ∧ cap = 0 ∧ off = E.gs k ∨ a = some ⟨E.γ k, off, none⟩ ∧ len ≤ cap ∧ off + cap = E.gs k)
  | .hp k off, v => k < E.hn ∧ v = .pointer (some ⟨E.γ k, off, none⟩)
  | .hclo f ks, v => (∀ k ∈ ks, k < E.hn) ∧ v = .func (.func f) #[] (ks.map fun k => Value.pointer (some ⟨E.γ k, 0, none⟩)).toArray
  | .mp id, v => id < E.n ∧ v = .map (some (E.β id))

inductive RepA (w : World) (W : WSet) (E : Env) : A → Value → Prop where
  | one (c : C) (v : Value) (h : RepC w W E c v) : RepA w W E (.one c) v
  | agg (cs : List C) (vs : List Value) (hl : vs.length = cs.length) (h : ∀ k c, cs[k]? = some c → RepC w W E c (vs.getD k undef)) : RepA w W E (.agg cs) (.agg vs.toArray)
  | tup (as : List A) (vs : List Value) (hl : vs.length = as.length) (h : ∀ k a, as[k]? = some a → RepA w W E a (vs.getD k undef)) : RepA w W E (.tup as) (.tuple vs.toArray)
  | any (v : Value) : RepA w W E .any v

/-- The names go on: nothing that was named is named otherwise, and a token's slice has only grown. -/
structure Env.le (E E' : Env) : Prop where
  n : E.n ≤ E'.n
  β : ∀ id, id < E.n → E'.β id = E.β id
  τ : ∀ k, k < E.n → ∀ T', E'.τ k = some T' → ∃ T, E.τ k = some T ∧ (T' = T ∨ T.len < T'.len)
  hn : E.hn ≤ E'.hn
  γ : ∀ k, k < E.hn → E'.γ k = E.γ k ∧ E'.gs k = E.gs k

theorem Env.le.refl (E : Env) : E.le E := ⟨Nat.le_refl _, fun _ _ => rfl, fun _ _ T h => ⟨T, h, .inl rfl⟩, Nat.le_refl _, fun _ _ => ⟨rfl, rfl⟩⟩
theorem Env.le.trans {E1 E2 E3 : Env} (h : E1.le E2) (k : E2.le E3) : E1.le E3 :=
  ⟨Nat.le_trans h.n k.n, fun id hi => (k.β id (Nat.lt_of_lt_of_le hi h.n)).trans (h.β id hi), fun i hi T3 h3 => by
    obtain ⟨T2, h2, hh⟩ := k.τ i (Nat.lt_of_lt_of_le hi h.n) T3 h3
    obtain ⟨T1, h1, hh'⟩ := h.τ i hi T2 h2
    refine ⟨T1, h1, ?_⟩
    rcases hh with rfl | hh <;> rcases hh' with rfl | hh'
    · exact .inl rfl
    · exact .inr hh'
    · exact .inr hh
    · exact .inr (Nat.lt_trans hh' hh), Nat.le_trans h.hn k.hn, fun i hi => by
      obtain ⟨a1, a2⟩ := h.γ i hi
      obtain ⟨b1, b2⟩ := k.γ i (Nat.lt_of_lt_of_le hi h.hn)
      exact ⟨b1.trans a1, b2.trans a2⟩⟩

theorem RepC.keep {w w' : World} {W W' : WSet} {E E' : Env} {c : C} {v : Value} (h : RepC w W E c v) (k : Keeps w W w' W') (e : E.le E') : RepC w' W' E' c v := by
  cases c with
  | d x => exact RepD.keep h k
  | full es => exact ⟨RepD.keep h.1 k, h.2⟩
  | app es i =>
    refine ⟨RepD.keep h.1 k, Nat.lt_of_lt_of_le h.2.1 e.n, fun T' hT' => ?_⟩
    obtain ⟨T, hT, hh⟩ := e.τ i h.2.1 T' hT'
    obtain ⟨h1, h2⟩ := h.2.2 T hT
    rcases hh with rfl | hh
    · exact ⟨h1, h2⟩
    · exact ⟨by omega, fun he => by omega⟩
  | ref id off => exact ⟨Nat.lt_of_lt_of_le h.1 e.n, by rw [e.β id h.1]; exact h.2⟩
  | msl id off len cap sz => exact ⟨Nat.lt_of_lt_of_le h.1 e.n, by rw [e.β id h.1]; exact h.2⟩
  | clo f ids =>
    refine ⟨fun i hi => Nat.lt_of_lt_of_le (h.1 i hi) e.n, ?_⟩
    rw [h.2]
    have : (ids.map fun id => Value.pointer (some ⟨E.β id, 0, none⟩)) = (ids.map fun id => Value.pointer (some ⟨E'.β id, 0, none⟩)) :=
      List.map_congr_left fun i hi => by rw [e.β i (h.1 i hi)]
    rw [this]
  | any => exact h
  | hs k off len =>
    obtain ⟨g1, g2⟩ := e.γ k h.1
    refine ⟨Nat.lt_of_lt_of_le h.1 e.hn, ?_⟩
    rw [g1, g2]; exact h.2
  | hp k off => exact ⟨Nat.lt_of_lt_of_le h.1 e.hn, by rw [(e.γ k h.1).1]; exact h.2⟩
  | hclo f ks =>
    refine ⟨fun i hi => Nat.lt_of_lt_of_le (h.1 i hi) e.hn, ?_⟩
    rw [h.2]
    have : (ks.map fun k => Value.pointer (some ⟨E.γ k, 0, none⟩)) = (ks.map fun k => Value.pointer (some ⟨E'.γ k, 0, none⟩)) :=
      List.map_congr_left fun i hi => by rw [(e.γ i (h.1 i hi)).1]
    rw [this]
  | mp id => exact ⟨Nat.lt_of_lt_of_le h.1 e.n, by rw [e.β id h.1]; exact h.2⟩

/-- What else lies under a name: no cells. -/
inductive Ob where
  | it (l : List UInt8) (p : Nat)
  | mp (es : List ((Int × Int) × List UInt8))
/-- A key of two numbers; a text. -/
def mkey (p : Int × Int) : Value := .agg #[.int .i64 p.1, .int .i64 p.2]
def mval (l : List UInt8) : Value := .string ⟨l.toArray⟩
def RepO (_ : World) (_ : WSet) : Ob → Obj → Prop
  | .it l p, j => j = .stringIter ⟨l.toArray⟩ p
  | .mp es, j => ∃ l c, j = .map l c ∧ l.toList.map (fun q => (q.key, q.val)) = es.map fun p => (mkey p.1, mval p.2)
theorem RepO.keep {w w' : World} {W W' : WSet} {o : Ob} {j : Obj} (h : RepO w W o j) (_ : Keeps w W w' W') : RepO w' W' o j := by
  cases o <;> exact h
theorem RepO.ncell {w : World} {W : WSet} {o : Ob} {vs : Array Value} {t : TypeId} {z : Nat × Nat} (h : RepO w W o (.cells vs t z)) : False := by
  cases o
  · cases h
  · obtain ⟨_, _, h, _⟩ := h; cases h

theorem RepC.oneCell {w : World} {W : WSet} {E : Env} {c : C} {v : Value} (h : RepC w W E c v) : v.oneCell' = true := by
  cases c with
  | d x => exact RepD.oneCell h
  | full es => exact RepD.oneCell h.1
  | app es i => exact RepD.oneCell h.1
  | ref id off => rw [h.2]; rfl
  | msl id off len cap sz => rw [h.2]; rfl
  | clo f ids => rw [h.2]; rfl
  | any => exact h
  | hs k off len => obtain ⟨_, a, cap, rfl, _⟩ := h; rfl
  | hp k off => rw [h.2]; rfl
  | hclo f ks => rw [h.2]; rfl
  | mp id => rw [h.2]; rfl

theorem RepA.keep {w w' : World} {W W' : WSet} {E E' : Env} {a : A} {v : Value} (h : RepA w W E a v) (k : Keeps w W w' W') (e : E.le E') : RepA w' W' E' a v := by
  induction h with
  | one c v h => exact .one c v (h.keep k e)
  | agg cs vs hl h => exact .agg cs vs hl fun i c hc => (h i c hc).keep k e
  | tup as vs hl h ih => exact .tup as vs hl ih
  | any v => exact .any v

/-- The cells of a value that is no tuple. -/
def A.cells : A → Option (List C)
  | .one c => some [c]
  | .agg cs => some cs
  | _ => none

theorem cells_one {v : Value} (h : v.oneCell' = true) : v.cells = #[v] := by
  cases v <;> first | rfl | simp [Value.oneCell'] at h

theorem RepA.cells {w : World} {W : WSet} {E : Env} {a : A} {v : Value} {cs : List C} (h : RepA w W E a v) (hc : a.cells = some cs) :
    v.cells.size = cs.length ∧ ∀ (k : Nat) (c : C), cs[k]? = some c → ∃ u, v.cells[k]? = some u ∧ RepC w W E c u := by
  cases h with
  | one c v h =>
    simp only [A.cells, Option.some.injEq] at hc
    subst hc
    rw [cells_one h.oneCell]
    refine ⟨rfl, fun k c' hk => ?_⟩
    cases k with
    | zero => simp at hk; subst hk; exact ⟨v, rfl, h⟩
    | succ k => simp at hk
  | agg cs' vs hl h =>
    simp only [A.cells, Option.some.injEq] at hc
    subst hc
    refine ⟨by simpa [Value.cells] using hl, fun k c' hk => ?_⟩
    have hlt : k < vs.length := by rw [hl]; exact (List.getElem?_eq_some_iff.1 hk).1
    refine ⟨vs.getD k undef, ?_, h k c' hk⟩
    simp [Value.cells, hlt]
  | tup as vs hl h => simp [A.cells] at hc
  | any v => simp [A.cells] at hc

end Go.Av
