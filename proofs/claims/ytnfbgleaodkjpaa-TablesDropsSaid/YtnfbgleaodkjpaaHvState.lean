/-
  Abstract states, how they are met by a frame and a world, and what a growing world leaves of that. Over any program. No toy.
-/
import Derived.Test.YtnfbgleaodkjpaaHvBase
set_option linter.all false
namespace Go.Av
open Go.RowKit

def upd {α : Type} (f : Nat → α) (k : Nat) (v : α) : Nat → α := fun i => if i = k then v else f i
@[simp] theorem upd_same {α : Type} (f : Nat → α) (k : Nat) (v : α) : upd f k v k = v := by simp [upd]
theorem upd_ne {α : Type} (f : Nat → α) (k i : Nat) (v : α) (h : ¬ i = k) : upd f k v i = f i := by simp [upd, h]

/-- A block of one's own that a slice may lie in: what is known of its cells; is that the whole block? -/
structure HO where
  cs : List C
  ex : Bool
abbrev Hp := List (Option HO)
/-- Cells that may lie in such a block. -/
def C.hok : C → Bool
  | .d _ | .full _ | .hs .. | .hp .. | .hclo .. => true
  | _ => false

structure St where
  t : Nat → A
  m : Nat
  n : Nat
  h : Nat → Option (List C)
  tip : Nat → Option (TypeId × Nat)
  o : Nat → Option Ob
  H : Hp := []

structure Ent where
  w0 : World
  Wf : WSet
  Own0 : WSet
  E0 : Env

/-- The first variable of the program holds a number. -/
def GlW (w : World) : Prop := ∃ m : Int, w.cell? ⟨0, 0, none⟩ = some (.int .i64 m)

structure Ent.ok (x : Ent) : Prop where
  wf : ∀ b o, x.Wf b o → b < x.w0.heap.size
  apart : ∀ b o, x.Own0 b o → ¬ x.Wf b o
  gl : GlW x.w0
  glo : ∀ o, ¬ x.Own0 0 o

/-- What a call has left of the world in which it began. -/
structure Fr (x : Ent) (w : World) : Prop where
  os : w.os = x.w0.os
  tape : w.tape = x.w0.tape
  output : w.output = x.w0.output
  size : x.w0.heap.size ≤ w.heap.size
  block : ∀ b, b < x.w0.heap.size → (∀ o, ¬ x.Own0 b o) → w.heap[b]? = x.w0.heap[b]?
  cell : ∀ b o u, b < x.w0.heap.size → ¬ x.Own0 b o → x.w0.cell? ⟨b, o, none⟩ = some u → w.cell? ⟨b, o, none⟩ = some u

def Tip.spare (T : Tip) (b o : Nat) : Prop := ∃ off, T.base = some ⟨b, off, none⟩ ∧ off + T.len * T.sz ≤ o ∧ o < off + T.cap * T.sz

def OwnH (s : St) (E : Env) : WSet := fun b _ => ∃ k o, s.H[k]? = some (some o) ∧ E.γ k = b
def Own (s : St) (E : Env) : WSet := fun b o =>
  (∃ id cs, s.h id = some cs ∧ E.β id = b) ∨ (∃ k T, E.τ k = some T ∧ T.spare b o) ∨ OwnH s E b o

def Wn (x : Ent) (s : St) (E : Env) : WSet := fun b o => x.Wf b o ∨ Own s E b o

/-- A block of one's own, whole: its cells, none frozen. -/
def BoxAt (w : World) (W : WSet) (E : Env) (b : Nat) (cs : List C) : Prop :=
  ∃ vs t, w.heap[b]? = some (.cells vs t (0, 0)) ∧ vs.size = cs.length ∧ ∀ (k : Nat) (c : C), cs[k]? = some c → RepC w W E c (vs.getD k undef)

/-- The blocks of a state's slices, how they lie. -/
structure HOk (x : Ent) (s : St) (w : World) (E : Env) : Prop where
  n : E.hn = s.H.length
  ob : ∀ k o, s.H[k]? = some (some o) → ∃ vs t, w.heap[E.γ k]? = some (.cells vs t (0, 0)) ∧ vs.size = E.gs k ∧ o.cs.length ≤ vs.size ∧ (o.ex = true → o.cs.length = vs.size) ∧
    ∀ (i : Nat) (c : C), o.cs[i]? = some c → c.hok = true ∧ RepC w (Wn x s E) E c (vs.getD i undef)
  inj : ∀ i j a b, s.H[i]? = some (some a) → s.H[j]? = some (some b) → E.γ i = E.γ j → i = j
  box : ∀ k o id cs, s.H[k]? = some (some o) → s.h id = some cs → E.γ k ≠ E.β id
  tip : ∀ k o j T b p, s.H[k]? = some (some o) → E.τ j = some T → T.spare b p → E.γ k ≠ b

theorem HOk.keep {x : Ent} {s : St} {w : World} {E : Env} (h : HOk x s w E) {x' : Ent} {s' : St} {w' : World} {E' : Env} (hH : s'.H = s.H) (hn : E'.hn = E.hn) (hγ : E'.γ = E.γ) (hgs : E'.gs = E.gs)
    (hb : ∀ k o, s.H[k]? = some (some o) → w'.heap[E.γ k]? = w.heap[E.γ k]?) (kp : Keeps w (Wn x s E) w' (Wn x' s' E')) (he : ∀ c v, C.hok c = true → RepC w' (Wn x' s' E') E c v → RepC w' (Wn x' s' E') E' c v)
    (hbox : ∀ k o id cs, s.H[k]? = some (some o) → s'.h id = some cs → E.γ k ≠ E'.β id)
    (htip : ∀ k o j T b p, s.H[k]? = some (some o) → E'.τ j = some T → T.spare b p → E.γ k ≠ b) : HOk x' s' w' E' where
  n := by rw [hn, hH]; exact h.n
  ob := fun k o hk => by
    rw [hH] at hk
    obtain ⟨vs, t, h1, h2, h3, h4, h5⟩ := h.ob k o hk
    refine ⟨vs, t, by rw [hγ, hb k o hk]; exact h1, by rw [hgs]; exact h2, h3, h4, fun i c hc => ?_⟩
    obtain ⟨h6, h7⟩ := h5 i c hc
    exact ⟨h6, he _ _ h6 (h7.keep kp (.refl E))⟩
  inj := fun i j a b hi hj hab => by rw [hH] at hi hj; rw [hγ] at hab; exact h.inj i j a b hi hj hab
  box := fun k o id cs hk hi => by rw [hH] at hk; rw [hγ]; exact hbox k o id cs hk hi
  tip := fun k o j T b p hk hj hs => by rw [hH] at hk; rw [hγ]; exact htip k o j T b p hk hj hs

structure RepE (P : Program) (x : Ent) (s : St) (w : World) (E : Env) : Prop where
  fr : Fr x w
  n : E.n = s.n
  le : x.E0.le E
  box : ∀ id cs, s.h id = some cs → id < s.n ∧ BoxAt w (Wn x s E) E (E.β id) cs
  inj : ∀ i j a b, s.h i = some a → s.h j = some b → E.β i = E.β j → i = j
  tip : ∀ k, s.tip k = (E.τ k).map fun T => (T.elem, T.len)
  tlt : ∀ k T, E.τ k = some T → k < s.n ∧ T.len ≤ T.cap
  trow : ∀ k T, E.τ k = some T → T.len < T.cap → ∃ g cur i, T.base = some ⟨g, 0, none⟩ ∧ w.heap[g]? = some (.cells cur T.elem (0, 0)) ∧
    cur.size = T.cap * T.sz ∧ P.info? T.elem = some i ∧ i.size = T.sz ∧ 0 < T.sz ∧ T.cap ≤ maxLen
  tbox : ∀ k T id cs b o, E.τ k = some T → s.h id = some cs → T.spare b o → E.β id ≠ b
  ttip : ∀ k k' T T' b o o', E.τ k = some T → E.τ k' = some T' → T.spare b o → T'.spare b o' → k = k'
  fresh : ∀ b o, Own s E b o → x.w0.heap.size ≤ b ∨ x.Own0 b o
  ob : ∀ id o, s.o id = some o → id < s.n ∧ x.w0.heap.size ≤ E.β id ∧ ∃ j, w.heap[E.β id]? = some j ∧ RepO w (Wn x s E) o j
  oinj : ∀ i j a b, s.o i = some a → s.o j = some b → E.β i = E.β j → i = j
  hp : HOk x s w E

theorem RepE.glw {P : Program} {x : Ent} {s : St} {w : World} {E : Env} (h : RepE P x s w E) (hx : x.ok) : GlW w := by
  obtain ⟨m, hm⟩ := hx.gl
  exact ⟨m, h.fr.cell 0 0 _ (World.block_lt_of_cell? _ _ hm) (hx.glo 0) hm⟩
theorem RepE.noH {P : Program} {x : Ent} {s : St} {w : World} {E : Env} (h : RepE P x s w E) (hx : x.ok) (o : Nat) : ¬ OwnH s E 0 o := fun ho => by
  obtain ⟨m, hm⟩ := hx.gl
  have hlt : 0 < x.w0.heap.size := World.block_lt_of_cell? _ _ hm
  rcases h.fresh 0 o (.inr (.inr ho)) with h1 | h1
  · omega
  · exact hx.glo o h1
theorem RepE.hlt {P : Program} {x : Ent} {s : St} {w : World} {E : Env} (h : RepE P x s w E) {k : Nat} {o : HO} (hk : s.H[k]? = some (some o)) : E.γ k < w.heap.size := by
  obtain ⟨vs, t, h1, _⟩ := h.hp.ob k o hk
  exact (Array.getElem?_eq_some_iff.1 h1).1

/-- The state meets the frame and the world; beside it one more value. -/
def RepSV (P : Program) (x : Ent) (s : St) (a : Act) (w : World) (r : A) (v : Value) : Prop :=
  a.defers = [] ∧ s.m = a.tmps.size ∧ ∃ E, RepE P x s w E ∧ (∀ i, RepA w (Wn x s E) E (s.t i) (a.tmps.getD i undef)) ∧ RepA w (Wn x s E) E r v

def RepSt (P : Program) (x : Ent) (s : St) (a : Act) (w : World) : Prop :=
  a.defers = [] ∧ s.m = a.tmps.size ∧ ∃ E, RepE P x s w E ∧ (∀ i, RepA w (Wn x s E) E (s.t i) (a.tmps.getD i undef))

theorem RepSt.sv {P : Program} {x : Ent} {s : St} {a : Act} {w : World} (h : RepSt P x s a w) {r : A} {v : Value}
    (hr : ∀ E, RepE P x s w E → (∀ i, RepA w (Wn x s E) E (s.t i) (a.tmps.getD i undef)) → RepA w (Wn x s E) E r v) : RepSV P x s a w r v := by
  obtain ⟨h1, h2, E, h3, h4⟩ := h
  exact ⟨h1, h2, E, h3, h4, hr E h3 h4⟩

theorem RepSV.st {P : Program} {x : Ent} {s : St} {a : Act} {w : World} {r : A} {v : Value} (h : RepSV P x s a w r v) : RepSt P x s a w := by
  obtain ⟨h1, h2, E, h3, h4, _⟩ := h
  exact ⟨h1, h2, E, h3, h4⟩

def St.set (s : St) (d : Nat) (r : A) : St := { s with t := upd s.t d r }
def St.put (s : St) (dst : Option Nat) (r : A) : St := match dst with | some d => s.set d r | none => s
@[simp] theorem St.put_some (s : St) (d : Nat) (r : A) : s.put (some d) r = s.set d r := rfl
@[simp] theorem St.put_none (s : St) (r : A) : s.put none r = s := rfl
@[simp] theorem St.set_t (s : St) (d : Nat) (r : A) : (s.set d r).t = upd s.t d r := rfl
@[simp] theorem St.set_m (s : St) (d : Nat) (r : A) : (s.set d r).m = s.m := rfl
@[simp] theorem St.set_n (s : St) (d : Nat) (r : A) : (s.set d r).n = s.n := rfl
@[simp] theorem St.set_h (s : St) (d : Nat) (r : A) : (s.set d r).h = s.h := rfl
@[simp] theorem St.set_o (s : St) (d : Nat) (r : A) : (s.set d r).o = s.o := rfl
@[simp] theorem St.set_H (s : St) (d : Nat) (r : A) : (s.set d r).H = s.H := rfl
@[simp] theorem St.set_tip (s : St) (d : Nat) (r : A) : (s.set d r).tip = s.tip := rfl

theorem Wn_set (x : Ent) (s : St) (E : Env) (d : Nat) (r : A) : Wn x (s.set d r) E = Wn x s E := rfl

theorem RepE.set {P : Program} {x : Ent} {s : St} {w : World} {E : Env} (h : RepE P x s w E) (d : Nat) (r : A) : RepE P x (s.set d r) w E :=
  ⟨h.fr, h.n, h.le, h.box, h.inj, h.tip, h.tlt, h.trow, h.tbox, h.ttip, h.fresh, h.ob, h.oinj, h.hp.keep rfl rfl rfl rfl (fun _ _ _ => rfl) (Keeps.refl _ _) (fun _ _ _ h => h) h.hp.box h.hp.tip⟩

theorem getD_set (xs : Array Value) (d i : Nat) (v : Value) (hd : d < xs.size) : (xs.setIfInBounds d v).getD i undef = if i = d then v else xs.getD i undef := by
  by_cases h : i = d
  · subst h; simp [hd]
  · simp [Array.getD_eq_getD_getElem?, Array.getElem?_setIfInBounds, Ne.symm h, h]

theorem RepSV.put {P : Program} {x : Ent} {s : St} {a : Act} {w : World} {r : A} {v : Value} (h : RepSV P x s a w r v) (dst : Option Nat)
    (hd : ∀ d, dst = some d → d < s.m) : RepSt P x (s.put dst r) (a.put dst v) w := by
  obtain ⟨h1, h2, E, h3, h4, h5⟩ := h
  cases dst with
  | none => exact ⟨h1, h2, E, h3, h4⟩
  | some d =>
    have hdm : d < a.tmps.size := by rw [← h2]; exact hd d rfl
    refine ⟨h1, by simpa [Act.put] using h2, E, h3.set d r, fun i => ?_⟩
    show RepA w _ E (upd s.t d r i) ((a.tmps.setIfInBounds d v).getD i undef)
    rw [getD_set _ _ _ _ hdm]
    unfold upd
    split
    · exact h5
    · exact h4 i

/-- A world that has only grown. -/
structure Grew (w w' : World) : Prop where
  os : w'.os = w.os
  tape : w'.tape = w.tape
  output : w'.output = w.output
  size : w.heap.size ≤ w'.heap.size
  block : ∀ b, b < w.heap.size → w'.heap[b]? = w.heap[b]?

theorem Grew.of_below {w w' : World} (h : Below w.heap.size w w') : Grew w w' := ⟨h.os, h.tape, h.output, h.size, h.block⟩
theorem Grew.refl (w : World) : Grew w w := ⟨rfl, rfl, rfl, Nat.le_refl _, fun _ _ => rfl⟩
theorem Grew.alloc (w : World) (o : Obj) : Grew w (w.alloc o) :=
  ⟨rfl, rfl, rfl, by simp, fun b hb => by rw [World.alloc]; simp only []; rw [Array.getElem?_push, if_neg (by omega)]⟩
theorem Grew.drew (w : World) : Grew w w.drew := ⟨rfl, rfl, rfl, Nat.le_refl _, fun _ _ => rfl⟩
theorem Grew.trans {a b c : World} (h : Grew a b) (k : Grew b c) : Grew a c :=
  ⟨k.os.trans h.os, k.tape.trans h.tape, k.output.trans h.output, Nat.le_trans h.size k.size, fun i hi => (k.block i (Nat.lt_of_lt_of_le hi h.size)).trans (h.block i hi)⟩
theorem Grew.cell {w w' : World} (h : Grew w w') {b o : Nat} {u : Value} (hc : w.cell? ⟨b, o, none⟩ = some u) : w'.cell? ⟨b, o, none⟩ = some u := by
  have := World.block_lt_of_cell? w _ hc
  rw [World.cell?_of_block (w := w) (h.block b this)]; exact hc

theorem Grew.keeps {w w' : World} (h : Grew w w') (W : WSet) : Keeps w W w' W := fun _ _ _ hc hW => ⟨h.cell hc, hW⟩

theorem lt_of_heap {w : World} {b : Nat} {o : Obj} (h : w.heap[b]? = some o) : b < w.heap.size := (Array.getElem?_eq_some_iff.1 h).1

theorem BoxAt.lt {w : World} {W : WSet} {E : Env} {b : Nat} {cs : List C} (h : BoxAt w W E b cs) : b < w.heap.size := by
  obtain ⟨vs, t, h, _⟩ := h; exact lt_of_heap h

theorem BoxAt.keep {w w' : World} {W W' : WSet} {E E' : Env} {b : Nat} {cs : List C} (h : BoxAt w W E b cs) (hb : w'.heap[b]? = w.heap[b]?) (k : Keeps w W w' W') (e : E.le E') :
    BoxAt w' W' E' b cs := by
  obtain ⟨vs, t, h1, h2, h3⟩ := h
  exact ⟨vs, t, by rw [hb]; exact h1, h2, fun i c hc => (h3 i c hc).keep k e⟩

/-- What is no row of cells lies elsewhere. -/
theorem RepE.ob_ne {P : Program} {x : Ent} {s : St} {w : World} {E : Env} (h : RepE P x s w E) {id : Nat} {o : Ob} (ho : s.o id = some o) {g : Nat} {vs : Array Value} {t : TypeId} {z : Nat × Nat} (hg : w.heap[g]? = some (.cells vs t z)) : E.β id ≠ g := by
  intro e
  obtain ⟨_, _, j, hj, hr⟩ := h.ob id o ho
  rw [e, hg] at hj
  simp only [Option.some.injEq] at hj
  subst hj
  exact hr.ncell

theorem RepE.own_lt {P : Program} {x : Ent} {s : St} {w : World} {E : Env} (h : RepE P x s w E) {b o : Nat} (ho : Own s E b o) : b < w.heap.size := by
  rcases ho with ⟨id, cs, h1, rfl⟩ | ⟨k, T, h1, off, h2, h3, h4⟩ | ⟨k, o, hk, rfl⟩
  · exact (h.box id cs h1).2.lt
  · have : T.len < T.cap := by
      rcases Nat.lt_or_ge T.len T.cap with h' | h'
      · exact h'
      · have := Nat.mul_le_mul_right T.sz h'; omega
    obtain ⟨g, cur, i, g1, g2, _⟩ := h.trow k T h1 this
    rw [g1] at h2
    simp only [Option.some.injEq, Addr.mk.injEq] at h2
    rw [← h2.1]; exact lt_of_heap g2
  · exact h.hlt hk

theorem RepE.wn_lt {P : Program} {x : Ent} (hx : x.ok) {s : St} {w : World} {E : Env} (h : RepE P x s w E) {b o : Nat} (ho : Wn x s E b o) : b < w.heap.size := by
  rcases ho with h1 | h1
  · exact Nat.lt_of_lt_of_le (hx.wf b o h1) h.fr.size
  · exact h.own_lt h1

theorem Fr.grew {x : Ent} {w w' : World} (h : Fr x w) (g : Grew w w') : Fr x w' :=
  ⟨g.os.trans h.os, g.tape.trans h.tape, g.output.trans h.output, Nat.le_trans h.size g.size,
    fun b hb ho => (g.block b (Nat.lt_of_lt_of_le hb h.size)).trans (h.block b hb ho), fun b o u hb ho hc => g.cell (h.cell b o u hb ho hc)⟩

/-- A world that has only grown meets the same state. -/
theorem RepE.grew {P : Program} {x : Ent} {s : St} {w w' : World} {E : Env} (h : RepE P x s w E) (g : Grew w w') : RepE P x s w' E where
  fr := h.fr.grew g
  n := h.n
  le := h.le
  box := fun id cs hi => ⟨(h.box id cs hi).1, (h.box id cs hi).2.keep (g.block _ (h.box id cs hi).2.lt) (g.keeps _) (.refl E)⟩
  inj := h.inj
  tip := h.tip
  tlt := h.tlt
  trow := fun k T hk hl => by
    obtain ⟨gg, cur, i, g1, g2, r⟩ := h.trow k T hk hl
    exact ⟨gg, cur, i, g1, by rw [g.block gg (lt_of_heap g2)]; exact g2, r⟩
  tbox := h.tbox
  ttip := h.ttip
  fresh := h.fresh
  ob := fun id o hi => by
    obtain ⟨a, b, j, c, d⟩ := h.ob id o hi
    exact ⟨a, b, j, by rw [g.block _ (lt_of_heap c)]; exact c, d.keep (g.keeps _)⟩
  oinj := h.oinj
  hp := h.hp.keep rfl rfl rfl rfl (fun k o hk => g.block _ (h.hlt hk)) (g.keeps _) (fun _ _ _ h => h) h.hp.box h.hp.tip

theorem RepSt.grew {P : Program} {x : Ent} {s : St} {a : Act} {w w' : World} (h : RepSt P x s a w) (g : Grew w w') : RepSt P x s a w' := by
  obtain ⟨h1, h2, E, h3, h4⟩ := h
  exact ⟨h1, h2, E, h3.grew g, fun i => (h4 i).keep (g.keeps _) (.refl E)⟩

/-- A new block of one's own. -/
def St.new (s : St) (cs : List C) : St := { s with n := s.n + 1, h := upd s.h s.n (some cs) }

theorem Env.le_new (E : Env) (b : Nat) (ht : ∀ k T, E.τ k = some T → k < E.n) : E.le { E with n := E.n + 1, β := upd E.β E.n b } :=
  ⟨Nat.le_succ _, fun id hi => upd_ne _ _ _ _ (by omega), fun _ _ T h => ⟨T, h, .inl rfl⟩, Nat.le_refl _, fun _ _ => ⟨rfl, rfl⟩⟩

theorem RepSV.new {P : Program} {x : Ent} (hx : x.ok) {s : St} {a : Act} {w : World} (h : RepSt P x s a w) (cs : List C) (vs : Array Value) (t : TypeId) (hl : vs.size = cs.length)
    (hv : ∀ E, RepE P x s w E → (∀ i, RepA w (Wn x s E) E (s.t i) (a.tmps.getD i undef)) → ∀ (k : Nat) (c : C), cs[k]? = some c → RepC w (Wn x s E) E c (vs.getD k undef)) :
    RepSV P x (s.new cs) a (w.alloc (.cells vs t)) (.one (.ref s.n 0)) (.pointer (some ⟨w.heap.size, 0, none⟩)) := by
  obtain ⟨h1, h2, E, h3, h4⟩ := h
  have hv := hv E h3 h4
  have hnone : s.h s.n = none := by
    cases hh : s.h s.n with
    | none => rfl
    | some c => exact absurd (h3.box _ _ hh).1 (Nat.lt_irrefl _)
  let E' : Env := { E with n := E.n + 1, β := upd E.β E.n w.heap.size }
  have he : E.le E' := Env.le_new E _ fun k T hk => by rw [h3.n]; exact (h3.tlt k T hk).1
  have hβ : ∀ id c, s.h id = some c → E'.β id = E.β id := fun id c hi => he.β id (by rw [h3.n]; exact (h3.box id c hi).1)
  have hβn : E'.β s.n = w.heap.size := by show upd E.β E.n _ s.n = _; rw [h3.n]; simp
  have hown : ∀ b o, Own (s.new cs) E' b o → Own s E b o ∨ b = w.heap.size := by
    rintro b o (⟨id, c, hi, rfl⟩ | hk)
    · by_cases hin : id = s.n
      · subst hin; exact .inr hβn
      · have hi' : s.h id = some c := by simpa [St.new, upd, hin] using hi
        exact .inl (.inl ⟨id, c, hi', (hβ id c hi').symm⟩)
    · exact .inl (.inr hk)
  have gr := Grew.alloc w (.cells vs t)
  have kp : Keeps w (Wn x s E) (w.alloc (.cells vs t)) (Wn x (s.new cs) E') := by
    intro b o u hc hW
    refine ⟨gr.cell hc, fun hW' => ?_⟩
    have hb := World.block_lt_of_cell? w _ hc
    rcases hW' with hf | ho
    · exact hW (.inl hf)
    · rcases hown b o ho with ho | rfl
      · exact hW (.inr ho)
      · exact absurd hb (Nat.lt_irrefl _)
  refine ⟨h1, h2, E', ?_, fun i => (h4 i).keep kp he, .one _ _ ⟨?_, ?_⟩⟩
  · exact {
      fr := h3.fr.grew gr
      n := by show E.n + 1 = s.n + 1; rw [h3.n]
      le := h3.le.trans he
      box := fun id c hi => by
        by_cases hin : id = s.n
        · subst hin
          have hcs : cs = c := by simpa [St.new] using hi
          subst hcs
          refine ⟨Nat.lt_succ_self _, vs, t, ?_, hl, fun k c hc => (hv k c hc).keep kp he⟩
          rw [hβn]
          show (w.heap.push _)[w.heap.size]? = _
          simp
        · have hi' : s.h id = some c := by simpa [St.new, upd, hin] using hi
          refine ⟨Nat.lt_succ_of_lt (h3.box id c hi').1, ?_⟩
          rw [hβ id c hi']
          exact (h3.box id c hi').2.keep (gr.block _ (h3.box id c hi').2.lt) kp he
      inj := fun i j p q hi hj hb => by
        by_cases hin : i = s.n <;> by_cases hjn : j = s.n
        · omega
        · subst hin
          have hj' : s.h j = some q := by simpa [St.new, upd, hjn] using hj
          rw [hβn, hβ j q hj'] at hb
          have := (h3.box j q hj').2.lt
          omega
        · subst hjn
          have hi' : s.h i = some p := by simpa [St.new, upd, hin] using hi
          rw [hβn, hβ i p hi'] at hb
          have := (h3.box i p hi').2.lt
          omega
        · have hi' : s.h i = some p := by simpa [St.new, upd, hin] using hi
          have hj' : s.h j = some q := by simpa [St.new, upd, hjn] using hj
          rw [hβ i p hi', hβ j q hj'] at hb
          exact h3.inj i j p q hi' hj' hb
      tip := h3.tip
      tlt := fun k T hk => ⟨Nat.lt_succ_of_lt (h3.tlt k T hk).1, (h3.tlt k T hk).2⟩
      trow := fun k T hk hlt => by
        obtain ⟨gg, cur, i, g1, g2, r⟩ := h3.trow k T hk hlt
        exact ⟨gg, cur, i, g1, by rw [gr.block gg (lt_of_heap g2)]; exact g2, r⟩
      tbox := fun k T id c b o hk hi hs => by
        by_cases hin : id = s.n
        · subst hin
          rw [hβn]
          have := h3.own_lt (b := b) (o := o) (.inr (.inl ⟨k, T, hk, hs⟩))
          omega
        · have hi' : s.h id = some c := by simpa [St.new, upd, hin] using hi
          rw [hβ id c hi']
          exact h3.tbox k T id c b o hk hi' hs
      ttip := h3.ttip
      fresh := fun b o ho => by
        rcases hown b o ho with ho | rfl
        · exact h3.fresh b o ho
        · exact .inl h3.fr.size
      ob := fun id o hi => by
        obtain ⟨p1, p2, j, p3, p4⟩ := h3.ob id o hi
        have hb : E'.β id = E.β id := he.β id (by rw [h3.n]; exact p1)
        rw [hb]
        exact ⟨Nat.lt_succ_of_lt p1, p2, j, by rw [gr.block _ (lt_of_heap p3)]; exact p3, p4.keep kp⟩
      oinj := fun i j p q hi hj hb => by
        have hb1 : E'.β i = E.β i := he.β i (by rw [h3.n]; exact (h3.ob i p hi).1)
        have hb2 : E'.β j = E.β j := he.β j (by rw [h3.n]; exact (h3.ob j q hj).1)
        rw [hb1, hb2] at hb
        exact h3.oinj i j p q hi hj hb
      hp := h3.hp.keep rfl rfl rfl rfl (fun k o hk => gr.block _ (h3.hlt hk)) kp (fun c v hc h => h.keep (Keeps.refl _ _) he) (fun k o id c hk hi => by
        by_cases hin : id = s.n
        · subst hin
          rw [hβn]
          have := h3.hlt hk
          omega
        · have hi' : s.h id = some c := by simpa [St.new, upd, hin] using hi
          rw [hβ id c hi']
          exact h3.hp.box k o id c hk hi') h3.hp.tip }
  · show s.n < E.n + 1; rw [h3.n]; omega
  · rw [hβn]

end Go.Av
