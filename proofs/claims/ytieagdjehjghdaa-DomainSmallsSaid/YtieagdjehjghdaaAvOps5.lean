/-
  Operations over abstract states, 5: iterators over a text. Over any program. No toy.
-/
import Derived.Test.YtieagdjehjghdaaAvOps4
set_option linter.all false
namespace Go.Av
open Go.RowKit

def St.newO (s : St) (o : Ob) : St := { s with n := s.n + 1, o := upd s.o s.n (some o) }
def St.setO (s : St) (id : Nat) (o : Ob) : St := { s with o := upd s.o id (some o) }

theorem RepSV.newO {P : Program} {x : Ent} {s : St} {a : Act} {w : World} (h : RepSt P x s a w) (o : Ob) (j : Obj) (hj : ∀ w W, RepO w W o j) :
    RepSV P x (s.newO o) a (w.alloc j) (.one (.ref s.n 0)) (.pointer (some ⟨w.heap.size, 0, none⟩)) := by
  obtain ⟨h1, h2, E, h3, h4⟩ := h
  have hnone : s.o s.n = none := by
    cases hh : s.o s.n with
    | none => rfl
    | some c => exact absurd (h3.ob _ _ hh).1 (Nat.lt_irrefl _)
  let E' : Env := { E with n := E.n + 1, β := upd E.β E.n w.heap.size }
  have he : E.le E' := Env.le_new E _ fun k T hk => by rw [h3.n]; exact (h3.tlt k T hk).1
  have hβ : ∀ id, id < s.n → E'.β id = E.β id := fun id hi => he.β id (by rw [h3.n]; exact hi)
  have hβn : E'.β s.n = w.heap.size := by show upd E.β E.n _ s.n = _; rw [h3.n]; simp
  have hown : ∀ b q, Own (s.newO o) E' b q → Own s E b q := by
    rintro b q (⟨id, c, hi, rfl⟩ | hk)
    · exact .inl ⟨id, c, hi, (hβ id (h3.box id c hi).1).symm⟩
    · exact .inr hk
  have gr := Grew.alloc w j
  have kp : Keeps w (Wn x s E) (w.alloc j) (Wn x (s.newO o) E') := fun b q u hc hW => ⟨gr.cell hc, fun hW' => hW (hW'.imp id (hown b q))⟩
  have hob : ∀ id p, upd s.o s.n (some o) id = some p → (id = s.n ∧ p = o) ∨ (id ≠ s.n ∧ s.o id = some p) := fun id p hi => by
    by_cases e : id = s.n
    · subst e; simp at hi; exact .inl ⟨rfl, hi.symm⟩
    · rw [upd_ne _ _ _ _ e] at hi; exact .inr ⟨e, hi⟩
  refine ⟨h1, h2, E', ?_, fun i => (h4 i).keep kp he, .one _ _ ⟨?_, ?_⟩⟩
  · exact {
      fr := h3.fr.grew gr
      n := by show E.n + 1 = s.n + 1; rw [h3.n]
      le := h3.le.trans he
      box := fun id c hi => by
        obtain ⟨g1, g2⟩ := h3.box id c hi
        refine ⟨Nat.lt_succ_of_lt g1, ?_⟩
        rw [hβ id g1]
        exact g2.keep (gr.block _ g2.lt) kp he
      inj := fun i k p q hi hk hb => by
        rw [hβ i (h3.box i p hi).1, hβ k (h3.box k q hk).1] at hb
        exact h3.inj i k p q hi hk hb
      tip := h3.tip
      tlt := fun k T hk => ⟨Nat.lt_succ_of_lt (h3.tlt k T hk).1, (h3.tlt k T hk).2⟩
      trow := fun k T hk hlt => by
        obtain ⟨gg, cur, i, g1, g2, r⟩ := h3.trow k T hk hlt
        exact ⟨gg, cur, i, g1, by rw [gr.block gg (lt_of_heap g2)]; exact g2, r⟩
      tbox := fun k T id c b q hk hi hs => by
        rw [hβ id (h3.box id c hi).1]
        exact h3.tbox k T id c b q hk hi hs
      ttip := h3.ttip
      fresh := fun b q ho => h3.fresh b q (hown b q ho)
      ob := fun id p hi => by
        rcases hob id p hi with ⟨rfl, rfl⟩ | ⟨_, hi'⟩
        · refine ⟨Nat.lt_succ_self _, by rw [hβn]; exact h3.fr.size, j, ?_, hj _ _⟩
          rw [hβn]
          show (w.heap.push _)[w.heap.size]? = _
          simp
        · obtain ⟨p1, p2, j', p3, p4⟩ := h3.ob id p hi'
          rw [hβ id p1]
          exact ⟨Nat.lt_succ_of_lt p1, p2, j', by rw [gr.block _ (lt_of_heap p3)]; exact p3, p4.keep kp⟩
      oinj := fun i k p q hi hk hb => by
        rcases hob i p hi with ⟨rfl, rfl⟩ | ⟨_, hi'⟩ <;> rcases hob k q hk with ⟨rfl, rfl⟩ | ⟨_, hk'⟩
        · rfl
        · obtain ⟨p1, _, j', p3, _⟩ := h3.ob k q hk'
          rw [hβn, hβ k p1] at hb
          have := lt_of_heap p3
          omega
        · obtain ⟨p1, _, j', p3, _⟩ := h3.ob i p hi'
          rw [hβn, hβ i p1] at hb
          have := lt_of_heap p3
          omega
        · rw [hβ i (h3.ob i p hi').1, hβ k (h3.ob k q hk').1] at hb
          exact h3.oinj i k p q hi' hk' hb }
  · show s.n < E.n + 1; rw [h3.n]; omega
  · rw [hβn]

/-- The world with another object at a block. -/
def putO (w : World) (b : Nat) (j : Obj) : World := { w with heap := w.heap.setIfInBounds b j }

theorem RepE.setO {P : Program} {x : Ent} {s : St} {w : World} {E : Env} (h3 : RepE P x s w E) {id : Nat} {o : Ob} (o' : Ob) (hi : s.o id = some o) (j' : Obj) (hj : ∀ w W, RepO w W o' j') :
    RepE P x (s.setO id o') (putO w (E.β id) j') E ∧ Keeps w (Wn x s E) (putO w (E.β id) j') (Wn x (s.setO id o') E) := by
  obtain ⟨q1, q2, j, q3, q4⟩ := h3.ob id o hi
  have hlt := lt_of_heap q3
  have hoth : ∀ b, b ≠ E.β id → (putO w (E.β id) j').heap[b]? = w.heap[b]? := fun b hb => by
    simp only [putO, Array.getElem?_setIfInBounds, Ne.symm hb, if_false]
  have hself : (putO w (E.β id) j').heap[E.β id]? = some j' := by simp [putO, hlt]
  have hsize : (putO w (E.β id) j').heap.size = w.heap.size := by simp [putO]
  have hcell : ∀ b q u, w.cell? ⟨b, q, none⟩ = some u → b ≠ E.β id := fun b q u hc e => by
    subst e
    unfold World.cell? at hc
    simp only [q3] at hc
    cases o
    cases q4
    simp at hc
  have hown : ∀ b q, Own (s.setO id o') E b q ↔ Own s E b q := fun _ _ => Iff.rfl
  have kp : Keeps w (Wn x s E) (putO w (E.β id) j') (Wn x (s.setO id o') E) := fun b q u hc hW => by
    refine ⟨?_, hW⟩
    rw [World.cell?_of_block (w := w) (hoth b (hcell b q u hc))]; exact hc
  refine ⟨?_, kp⟩
  exact {
    fr := ⟨h3.fr.os, h3.fr.tape, h3.fr.output, by rw [hsize]; exact h3.fr.size, fun b hb ho => by rw [hoth b (by omega)]; exact h3.fr.block b hb ho,
      fun b q u hb ho hc => by
        rw [World.cell?_of_block (w := w) (hoth b (by omega))]; exact h3.fr.cell b q u hb ho hc⟩
    n := h3.n
    le := h3.le
    box := fun i c hc => by
      obtain ⟨g1, g2⟩ := h3.box i c hc
      have hb0 := g2
      obtain ⟨vs, t, b1, _⟩ := hb0
      exact ⟨g1, g2.keep (hoth _ (h3.ob_ne hi b1).symm) kp (.refl E)⟩
    inj := h3.inj
    tip := h3.tip
    tlt := h3.tlt
    trow := fun k T hk hl => by
      obtain ⟨gg, cur, i, g1, g2, r⟩ := h3.trow k T hk hl
      exact ⟨gg, cur, i, g1, by rw [hoth _ (h3.ob_ne hi g2).symm]; exact g2, r⟩
    tbox := h3.tbox
    ttip := h3.ttip
    fresh := h3.fresh
    ob := fun i p hp => by
      have hp : upd s.o id (some o') i = some p := hp
      by_cases e : i = id
      · subst e
        simp at hp
        subst hp
        exact ⟨q1, q2, j', hself, hj _ _⟩
      · rw [upd_ne _ _ _ _ e] at hp
        obtain ⟨p1, p2, j2, p3, p4⟩ := h3.ob i p hp
        exact ⟨p1, p2, j2, by rw [hoth _ fun e2 => e (h3.oinj i id p o hp hi e2)]; exact p3, p4.keep kp⟩
    oinj := fun i k p q hp hq hb => by
      have hp : upd s.o id (some o') i = some p := hp
      have hq : upd s.o id (some o') k = some q := hq
      have f : ∀ i p, upd s.o id (some o') i = some p → ∃ p', s.o i = some p' := fun i p hp => by
        by_cases e : i = id
        · subst e; exact ⟨o, hi⟩
        · rw [upd_ne _ _ _ _ e] at hp; exact ⟨p, hp⟩
      obtain ⟨_, hp⟩ := f i p hp
      obtain ⟨_, hq⟩ := f k q hq
      exact h3.oinj i k _ _ hp hq hb }

/-- The code point at a place of a text, and its width. -/
def runeAt (l : List UInt8) (p : Nat) : Nat × Nat := Utf8.decode ⟨l.toArray⟩ p

section
variable (P : Program) (s : St)
def aRange (t : TypeId) (y : Operand) (K : A → St → Prop) : Prop :=
  match aeval s y with
  | .one (.d (.s l)) => tstr P t = true ∧ K (.one (.ref s.n 0)) (s.newO (.it l 0))
  | _ => False
def aNext (y : Operand) (str : Bool) (K : A → St → Prop) : Prop :=
  match aeval s y with
  | .one (.ref id 0) => (match s.o id with
    | some (.it l p) => str = true ∧ (p < l.length → K (.tup [.one (.d (.v (.bool true))), .one (.d (.v (.int .i64 p))), .one (.d (.v (.int .i32 (runeAt l p).1)))]) (s.setO id (.it l (p + (runeAt l p).2)))) ∧
        (¬ p < l.length → K (.tup [.one (.d (.v (.bool false)))]) s)
    | none => False)
  | _ => False
end

theorem aRange_sound {P : Program} {x : Ent} {s : St} {a : Act} {w : World} {K : A → St → Prop} (h : RepSt P x s a w) {t : TypeId} {y : Operand} (hK : aRange P s t y K) : OpOK P x s a w (do pure (.value (← Instr.range t (a.eval y)))) K := by
  unfold aRange at hK
  split at hK
  · rename_i l hy
    have hv := eval_s h hy
    have hu := tstr_und hK.1
    refine ⟨_, _, _, _, .inl ?_, RepSV.newO h (.it l 0) (.stringIter ⟨l.toArray⟩ 0) (fun _ _ => rfl), hK.2, rfl⟩
    rw [hv]
    simp [Instr.range, run_underlying hu, newObj, Sem.run]
  · exact hK.elim

theorem aNext_sound {P : Program} {x : Ent} {s : St} {a : Act} {w : World} {K : A → St → Prop} (h : RepSt P x s a w) {y : Operand} {str : Bool} {ty : TypeId} (hK : aNext s y str K) : OpOK P x s a w (do pure (.value (← Instr.next (a.eval y) str ty))) K := by
  unfold aNext at hK
  split at hK
  · rename_i id hy
    split at hK
    · rename_i l p ho
      obtain ⟨rfl, hk1, hk2⟩ := hK
      have h0 := h
      obtain ⟨h1, h2, E, h3, h4⟩ := h
      have hv := aeval_rep h4 y
      rw [hy] at hv
      obtain ⟨hv1, hv2⟩ := one_inv hv
      obtain ⟨q1, q2, j, q3, q4⟩ := h3.ob id _ ho
      cases q4
      by_cases hp : p < l.length
      · obtain ⟨g1, g2⟩ := h3.setO (.it l (p + (runeAt l p).2)) ho (.stringIter ⟨l.toArray⟩ (p + (runeAt l p).2)) (fun _ _ => rfl)
        refine ⟨.tuple #[.bool true, .int .i64 p, .int .i32 (runeAt l p).1], putO w (E.β id) (.stringIter ⟨l.toArray⟩ (p + (runeAt l p).2)), _, s.setO id (.it l (p + (runeAt l p).2)), .inl ?_, ⟨h1, h2, E, g1, fun i => (h4 i).keep g2 (.refl E), ?_⟩, hk1 hp, rfl⟩
        · rw [hv2]
          have hsz : (⟨l.toArray⟩ : ByteArray).size = l.length := by simp [ByteArray.size]
          simp [Instr.next, getObj, setObj, Sem.run, q3, hsz, hp, putO, runeAt, goInt]
        · refine .tup _ [.bool true, .int .i64 p, .int .i32 (runeAt l p).1] rfl fun k r hk => ?_
          match k, hk with
          | 0, hk => simp at hk; subst hk; exact .one _ _ (.v _ rfl)
          | 1, hk => simp at hk; subst hk; exact .one _ _ (.v _ rfl)
          | 2, hk => simp at hk; subst hk; exact .one _ _ (.v _ rfl)
          | k + 3, hk => simp at hk
      · refine OpOK.pure h0 (v := .tuple #[.bool false]) ?_ (fun _ _ _ => ?_) (hk2 hp)
        · rw [hv2]
          have hsz : (⟨l.toArray⟩ : ByteArray).size = l.length := by simp [ByteArray.size]
          simp [Instr.next, getObj, Sem.run, q3, hsz, hp]
        · refine .tup _ [.bool false] rfl fun k r hk => ?_
          match k, hk with
          | 0, hk => simp at hk; subst hk; exact .one _ _ (.v _ rfl)
          | k + 1, hk => simp at hk
    · exact hK.elim
  · exact hK.elim

section
variable {P : Program} {s : St} {K K' : A → St → Prop}
theorem aRange_mono (hq : ∀ r s, K r s → K' r s) {t : TypeId} {y : Operand} (h : aRange P s t y K) : aRange P s t y K' := by
  unfold aRange at h ⊢
  split at h
  · exact ⟨h.1, hq _ _ h.2⟩
  · exact h.elim
theorem aNext_mono (hq : ∀ r s, K r s → K' r s) {y : Operand} {b : Bool} (h : aNext s y b K) : aNext s y b K' := by
  unfold aNext at h ⊢
  split at h
  · split at h
    · exact ⟨h.1, fun e => hq _ _ (h.2.1 e), fun e => hq _ _ (h.2.2 e)⟩
    · exact h.elim
  · exact h.elim
theorem aRange_frame {t : TypeId} {y : Operand} (h : aRange P s t y K) : aRange P s t y fun r s' => K r s' ∧ s'.t = s.t ∧ s'.h = s.h := by
  unfold aRange at h ⊢
  split at h
  · exact ⟨h.1, h.2, rfl, rfl⟩
  · exact h.elim
theorem aNext_frame {y : Operand} {b : Bool} (h : aNext s y b K) : aNext s y b fun r s' => K r s' ∧ s'.t = s.t ∧ s'.h = s.h := by
  unfold aNext at h ⊢
  split at h
  · split at h
    · exact ⟨h.1, fun e => ⟨h.2.1 e, rfl, rfl⟩, fun e => ⟨h.2.2 e, rfl, rfl⟩⟩
    · exact h.elim
  · exact h.elim
theorem aRange_set {d : Nat} {q : A} {t : TypeId} {y : Operand} (hy : aeval (s.set d q) y = aeval s y) : aRange P (s.set d q) t y K = aRange P s t y fun r s' => K r (s'.set d q) := by
  unfold aRange; simp only [hy]; rfl
theorem aNext_set {d : Nat} {q : A} {y : Operand} {b : Bool} (hy : aeval (s.set d q) y = aeval s y) : aNext (s.set d q) y b K = aNext s y b fun r s' => K r (s'.set d q) := by
  unfold aNext; simp only [hy]; rfl
end
end Go.Av
