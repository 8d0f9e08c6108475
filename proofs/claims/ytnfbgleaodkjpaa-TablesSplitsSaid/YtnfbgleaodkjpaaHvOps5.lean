/-
  Operations over abstract states, 5: iterators over a text. Over any program. No toy.
-/
import Derived.Test.YtnfbgleaodkjpaaHvOps4
import GoSem.Instr.Lookup
import GoSem.Instr.MapUpdate
import GoSem.Instr.MakeMap
set_option linter.all false
namespace Go.Av
open Go.RowKit

def St.newO (s : St) (o : Ob) : St := { s with n := s.n + 1, o := upd s.o s.n (some o) }
def St.setO (s : St) (id : Nat) (o : Ob) : St := { s with o := upd s.o id (some o) }

theorem RepSV.newO {P : Program} {x : Ent} {s : St} {a : Act} {w : World} (h : RepSt P x s a w) (o : Ob) (j : Obj) (hj : ∀ w W, RepO w W o j) :
    RepSV P x (s.newO o) a (w.alloc j) (.one (.ref s.n 0)) (.pointer (some ⟨w.heap.size, 0, none⟩)) ∧ RepSV P x (s.newO o) a (w.alloc j) (.one (.mp s.n)) (.map (some w.heap.size)) := by
  obtain ⟨h1, h2, E, h3, h4⟩ := h
  have hnone : s.o s.n = none := by
    cases hh : s.o s.n with
    | none => rfl
    | some c => exact absurd (h3.ob _ _ hh).1 (Nat.lt_irrefl _)
  let E' : Env := { E with n := E.n + 1, β := upd E.β E.n w.heap.size }
  have he : E.le E' := Env.le_new E _ fun k T hk => by rw [h3.n]; exact (h3.tlt k T hk).1
  have hβ : ∀ id, id < s.n → E'.β id = E.β id := fun id hi => he.β id (by rw [h3.n]; exact hi)
  have hβn : E'.β s.n = w.heap.size := by show upd E.β E.n _ s.n = _; rw [h3.n]; simp
  have hown : ∀ b q, Own (s.newO o) E' b q → Own s E b q := by
    rintro b q (⟨id, c, hi, rfl⟩ | hk)
    · exact .inl ⟨id, c, hi, (hβ id (h3.box id c hi).1).symm⟩
    · exact .inr hk
  have gr := Grew.alloc w j
  have kp : Keeps w (Wn x s E) (w.alloc j) (Wn x (s.newO o) E') := fun b q u hc hW => ⟨gr.cell hc, fun hW' => hW (hW'.imp id (hown b q))⟩
  have hob : ∀ id p, upd s.o s.n (some o) id = some p → (id = s.n ∧ p = o) ∨ (id ≠ s.n ∧ s.o id = some p) := fun id p hi => by
    by_cases e : id = s.n
    · subst e; simp at hi; exact .inl ⟨rfl, hi.symm⟩
    · rw [upd_ne _ _ _ _ e] at hi; exact .inr ⟨e, hi⟩
  have hE : RepE P x (s.newO o) (w.alloc j) E' := {
      fr := h3.fr.grew gr
      n := by show E.n + 1 = s.n + 1; rw [h3.n]
      le := h3.le.trans he
      box := fun id c hi => by
        obtain ⟨g1, g2⟩ := h3.box id c hi
        refine ⟨Nat.lt_succ_of_lt g1, ?_⟩
        rw [hβ id g1]
        exact g2.keep (gr.block _ g2.lt) kp he
      inj := fun i k p q hi hk hb => by
        rw [hβ i (h3.box i p hi).1, hβ k (h3.box k q hk).1] at hb
        exact h3.inj i k p q hi hk hb
      tip := h3.tip
      tlt := fun k T hk => ⟨Nat.lt_succ_of_lt (h3.tlt k T hk).1, (h3.tlt k T hk).2⟩
      trow := fun k T hk hlt => by
        obtain ⟨gg, cur, i, g1, g2, r⟩ := h3.trow k T hk hlt
        exact ⟨gg, cur, i, g1, by rw [gr.block gg (lt_of_heap g2)]; exact g2, r⟩
      tbox := fun k T id c b q hk hi hs => by
        rw [hβ id (h3.box id c hi).1]
        exact h3.tbox k T id c b q hk hi hs
      ttip := h3.ttip
      fresh := fun b q ho => h3.fresh b q (hown b q ho)
      ob := fun id p hi => by
        rcases hob id p hi with ⟨rfl, rfl⟩ | ⟨_, hi'⟩
        · refine ⟨Nat.lt_succ_self _, by rw [hβn]; exact h3.fr.size, j, ?_, hj _ _⟩
          rw [hβn]
          show (w.heap.push _)[w.heap.size]? = _
          simp
        · obtain ⟨p1, p2, j', p3, p4⟩ := h3.ob id p hi'
          rw [hβ id p1]
          exact ⟨Nat.lt_succ_of_lt p1, p2, j', by rw [gr.block _ (lt_of_heap p3)]; exact p3, p4.keep kp⟩
      oinj := fun i k p q hi hk hb => by
        rcases hob i p hi with ⟨rfl, rfl⟩ | ⟨_, hi'⟩ <;> rcases hob k q hk with ⟨rfl, rfl⟩ | ⟨_, hk'⟩
        · rfl
        · obtain ⟨p1, _, j', p3, _⟩ := h3.ob k q hk'
          rw [hβn, hβ k p1] at hb
          have := lt_of_heap p3
          omega
        · obtain ⟨p1, _, j', p3, _⟩ := h3.ob i p hi'
          rw [hβn, hβ i p1] at hb
          have := lt_of_heap p3
          omega
        · rw [hβ i (h3.ob i p hi').1, hβ k (h3.ob k q hk').1] at hb
          exact h3.oinj i k p q hi' hk' hb
      hp := h3.hp.keep rfl rfl rfl rfl (fun k o hk => gr.block _ (h3.hlt hk)) kp (fun _ _ _ h => h.keep (Keeps.refl _ _) he) (fun k o id c hk hi => by
        rw [hβ id (h3.box id c hi).1]; exact h3.hp.box k o id c hk hi) h3.hp.tip }
  have hsn : s.n < E.n + 1 := by rw [h3.n]; omega
  exact ⟨⟨h1, h2, E', hE, fun i => (h4 i).keep kp he, .one _ _ ⟨hsn, by rw [hβn]⟩⟩, ⟨h1, h2, E', hE, fun i => (h4 i).keep kp he, .one _ _ ⟨hsn, by rw [hβn]⟩⟩⟩

/-- The world with another object at a block. -/
def putO (w : World) (b : Nat) (j : Obj) : World := { w with heap := w.heap.setIfInBounds b j }

theorem RepE.setO {P : Program} {x : Ent} {s : St} {w : World} {E : Env} (h3 : RepE P x s w E) {id : Nat} {o : Ob} (o' : Ob) (hi : s.o id = some o) (j' : Obj) (hj : ∀ w W, RepO w W o' j') :
    RepE P x (s.setO id o') (putO w (E.β id) j') E ∧ Keeps w (Wn x s E) (putO w (E.β id) j') (Wn x (s.setO id o') E) := by
  obtain ⟨q1, q2, j, q3, q4⟩ := h3.ob id o hi
  have hlt := lt_of_heap q3
  have hoth : ∀ b, b ≠ E.β id → (putO w (E.β id) j').heap[b]? = w.heap[b]? := fun b hb => by
    simp only [putO, Array.getElem?_setIfInBounds, Ne.symm hb, if_false]
  have hself : (putO w (E.β id) j').heap[E.β id]? = some j' := by simp [putO, hlt]
  have hsize : (putO w (E.β id) j').heap.size = w.heap.size := by simp [putO]
  have hcell : ∀ b q u, w.cell? ⟨b, q, none⟩ = some u → b ≠ E.β id := fun b q u hc e => by
    subst e
    unfold World.cell? at hc
    simp only [q3] at hc
    cases o
    · cases q4; simp at hc
    · obtain ⟨_, _, rfl, _⟩ := q4; simp at hc
  have hown : ∀ b q, Own (s.setO id o') E b q ↔ Own s E b q := fun _ _ => Iff.rfl
  have kp : Keeps w (Wn x s E) (putO w (E.β id) j') (Wn x (s.setO id o') E) := fun b q u hc hW => by
    refine ⟨?_, hW⟩
    rw [World.cell?_of_block (w := w) (hoth b (hcell b q u hc))]; exact hc
  refine ⟨?_, kp⟩
  exact {
    fr := ⟨h3.fr.os, h3.fr.tape, h3.fr.output, by rw [hsize]; exact h3.fr.size, fun b hb ho => by rw [hoth b (by omega)]; exact h3.fr.block b hb ho,
      fun b q u hb ho hc => by
        rw [World.cell?_of_block (w := w) (hoth b (by omega))]; exact h3.fr.cell b q u hb ho hc⟩
    n := h3.n
    le := h3.le
    box := fun i c hc => by
      obtain ⟨g1, g2⟩ := h3.box i c hc
      have hb0 := g2
      obtain ⟨vs, t, b1, _⟩ := hb0
      exact ⟨g1, g2.keep (hoth _ (h3.ob_ne hi b1).symm) kp (.refl E)⟩
    inj := h3.inj
    tip := h3.tip
    tlt := h3.tlt
    trow := fun k T hk hl => by
      obtain ⟨gg, cur, i, g1, g2, r⟩ := h3.trow k T hk hl
      exact ⟨gg, cur, i, g1, by rw [hoth _ (h3.ob_ne hi g2).symm]; exact g2, r⟩
    tbox := h3.tbox
    ttip := h3.ttip
    fresh := h3.fresh
    ob := fun i p hp => by
      have hp : upd s.o id (some o') i = some p := hp
      by_cases e : i = id
      · subst e
        simp at hp
        subst hp
        exact ⟨q1, q2, j', hself, hj _ _⟩
      · rw [upd_ne _ _ _ _ e] at hp
        obtain ⟨p1, p2, j2, p3, p4⟩ := h3.ob i p hp
        exact ⟨p1, p2, j2, by rw [hoth _ fun e2 => e (h3.oinj i id p o hp hi e2)]; exact p3, p4.keep kp⟩
    oinj := fun i k p q hp hq hb => by
      have hp : upd s.o id (some o') i = some p := hp
      have hq : upd s.o id (some o') k = some q := hq
      have f : ∀ i p, upd s.o id (some o') i = some p → ∃ p', s.o i = some p' := fun i p hp => by
        by_cases e : i = id
        · subst e; exact ⟨o, hi⟩
        · rw [upd_ne _ _ _ _ e] at hp; exact ⟨p, hp⟩
      obtain ⟨_, hp⟩ := f i p hp
      obtain ⟨_, hq⟩ := f k q hq
      exact h3.oinj i k _ _ hp hq hb
    hp := h3.hp.keep rfl rfl rfl rfl (fun k o hk => hoth _ fun e => by
      obtain ⟨vs, t, b1, _⟩ := h3.hp.ob k o hk
      exact h3.ob_ne hi b1 e.symm) kp (fun _ _ _ h => h) h3.hp.box h3.hp.tip }

/-- The code point at a place of a text, and its width. -/
def runeAt (l : List UInt8) (p : Nat) : Nat × Nat := Utf8.decode ⟨l.toArray⟩ p

section
variable (P : Program) (s : St)
def aRange (t : TypeId) (y : Operand) (K : A → St → Prop) : Prop :=
  match aeval s y with
  | .one (.d (.s l)) => tstr P t = true ∧ K (.one (.ref s.n 0)) (s.newO (.it l 0))
  | _ => False
def aNext (y : Operand) (str : Bool) (K : A → St → Prop) : Prop :=
  match aeval s y with
  | .one (.ref id 0) => (match s.o id with
    | some (.it l p) => str = true ∧ (p < l.length → K (.tup [.one (.d (.v (.bool true))), .one (.d (.v (.int .i64 p))), .one (.d (.v (.int .i32 (runeAt l p).1)))]) (s.setO id (.it l (p + (runeAt l p).2)))) ∧
        (¬ p < l.length → K (.tup [.one (.d (.v (.bool false)))]) s)
    | _ => False)
  | _ => False
end

theorem aRange_sound {P : Program} {x : Ent} {s : St} {a : Act} {w : World} {K : A → St → Prop} (h : RepSt P x s a w) {t : TypeId} {y : Operand} (hK : aRange P s t y K) : OpOK P x s a w (do pure (.value (← Instr.range t (a.eval y)))) K := by
  unfold aRange at hK
  split at hK
  · rename_i l hy
    have hv := eval_s h hy
    have hu := tstr_und hK.1
    refine ⟨_, _, _, _, .inl ?_, (RepSV.newO h (.it l 0) (.stringIter ⟨l.toArray⟩ 0) (fun _ _ => rfl)).1, hK.2, rfl⟩
    rw [hv]
    simp [Instr.range, run_underlying hu, newObj, Sem.run]
  · exact hK.elim

theorem aNext_sound {P : Program} {x : Ent} {s : St} {a : Act} {w : World} {K : A → St → Prop} (h : RepSt P x s a w) {y : Operand} {str : Bool} {ty : TypeId} (hK : aNext s y str K) : OpOK P x s a w (do pure (.value (← Instr.next (a.eval y) str ty))) K := by
  unfold aNext at hK
  split at hK
  · rename_i id hy
    split at hK
    · rename_i l p ho
      obtain ⟨rfl, hk1, hk2⟩ := hK
      have h0 := h
      obtain ⟨h1, h2, E, h3, h4⟩ := h
      have hv := aeval_rep h4 y
      rw [hy] at hv
      obtain ⟨hv1, hv2⟩ := one_inv hv
      obtain ⟨q1, q2, j, q3, q4⟩ := h3.ob id _ ho
      cases q4
      by_cases hp : p < l.length
      · obtain ⟨g1, g2⟩ := h3.setO (.it l (p + (runeAt l p).2)) ho (.stringIter ⟨l.toArray⟩ (p + (runeAt l p).2)) (fun _ _ => rfl)
        refine ⟨.tuple #[.bool true, .int .i64 p, .int .i32 (runeAt l p).1], putO w (E.β id) (.stringIter ⟨l.toArray⟩ (p + (runeAt l p).2)), _, s.setO id (.it l (p + (runeAt l p).2)), .inl ?_, ⟨h1, h2, E, g1, fun i => (h4 i).keep g2 (.refl E), ?_⟩, hk1 hp, rfl⟩
        · rw [hv2]
          have hsz : (⟨l.toArray⟩ : ByteArray).size = l.length := by simp [ByteArray.size]
          simp [Instr.next, getObj, setObj, Sem.run, q3, hsz, hp, putO, runeAt, goInt]
        · refine .tup _ [.bool true, .int .i64 p, .int .i32 (runeAt l p).1] rfl fun k r hk => ?_
          match k, hk with
          | 0, hk => simp at hk; subst hk; exact .one _ _ (.v _ rfl)
          | 1, hk => simp at hk; subst hk; exact .one _ _ (.v _ rfl)
          | 2, hk => simp at hk; subst hk; exact .one _ _ (.v _ rfl)
          | k + 3, hk => simp at hk
      · refine OpOK.pure h0 (v := .tuple #[.bool false]) ?_ (fun _ _ _ => ?_) (hk2 hp)
        · rw [hv2]
          have hsz : (⟨l.toArray⟩ : ByteArray).size = l.length := by simp [ByteArray.size]
          simp [Instr.next, getObj, Sem.run, q3, hsz, hp]
        · refine .tup _ [.bool false] rfl fun k r hk => ?_
          match k, hk with
          | 0, hk => simp at hk; subst hk; exact .one _ _ (.v _ rfl)
          | k + 1, hk => simp at hk
    · exact hK.elim
  · exact hK.elim

section
variable {P : Program} {s : St} {K K' : A → St → Prop}
theorem aRange_mono (hq : ∀ r s, K r s → K' r s) {t : TypeId} {y : Operand} (h : aRange P s t y K) : aRange P s t y K' := by
  unfold aRange at h ⊢
  split at h
  · exact ⟨h.1, hq _ _ h.2⟩
  · exact h.elim
theorem aNext_mono (hq : ∀ r s, K r s → K' r s) {y : Operand} {b : Bool} (h : aNext s y b K) : aNext s y b K' := by
  unfold aNext at h ⊢
  split at h
  · split at h
    · exact ⟨h.1, fun e => hq _ _ (h.2.1 e), fun e => hq _ _ (h.2.2 e)⟩
    · exact h.elim
  · exact h.elim
theorem aRange_frame {t : TypeId} {y : Operand} (h : aRange P s t y K) : aRange P s t y fun r s' => K r s' ∧ s'.t = s.t ∧ s'.h = s.h ∧ s'.H = s.H := by
  unfold aRange at h ⊢
  split at h
  · exact ⟨h.1, h.2, rfl, rfl, rfl⟩
  · exact h.elim
theorem aNext_frame {y : Operand} {b : Bool} (h : aNext s y b K) : aNext s y b fun r s' => K r s' ∧ s'.t = s.t ∧ s'.h = s.h ∧ s'.H = s.H := by
  unfold aNext at h ⊢
  split at h
  · split at h
    · exact ⟨h.1, fun e => ⟨h.2.1 e, rfl, rfl, rfl⟩, fun e => ⟨h.2.2 e, rfl, rfl, rfl⟩⟩
    · exact h.elim
  · exact h.elim
theorem aRange_set {d : Nat} {q : A} {t : TypeId} {y : Operand} (hy : aeval (s.set d q) y = aeval s y) : aRange P (s.set d q) t y K = aRange P s t y fun r s' => K r (s'.set d q) := by
  unfold aRange; simp only [hy]; rfl
theorem aNext_set {d : Nat} {q : A} {y : Operand} {b : Bool} (hy : aeval (s.set d q) y = aeval s y) : aNext (s.set d q) y b K = aNext s y b fun r s' => K r (s'.set d q) := by
  unfold aNext; simp only [hy]; rfl
end

section maps
variable {P : Program}
theorem run_part_int (w : World) {e : TypeId} {k : IntKind} (he : P.underlying e = some (.int k)) (xs : Array Value) (off : Nat) (v : Value) (hx : xs[off]? = some v) : (part e xs off).run P w = .ok v w := by
  simp [part, isAgg, run_underlying he, hx]

theorem run_equal_pair (w : World) (n : Nat) {kt e : TypeId} {k : IntKind} (hk : P.underlying kt = some (.array 2 e)) (he : P.underlying e = some (.int k)) (hs : tsz P e = some 1) (a b c d : Int) :
    (Op.equalIn (n + 2) kt (.agg #[.int k a, .int k b]) (.agg #[.int k c, .int k d])).run P w = .ok (a == c && b == d) w := by
  have h1 : ∀ x y : Int, (Op.equalIn (n + 1) e (.int k x) (.int k y)).run P w = .ok (x == y) w := fun x y => by simp [Op.equalIn, run_underlying he]
  have h2 : ∀ x y : Int, (part e #[Value.int k x, Value.int k y] 0).run P w = .ok (.int k x) w := fun x y => run_part_int w he _ _ _ rfl
  have h3 : ∀ x y : Int, (part e #[Value.int k x, Value.int k y] 1).run P w = .ok (.int k y) w := fun x y => run_part_int w he _ _ _ rfl
  have hr : List.range' 0 2 = [0, 1] := rfl
  unfold Op.equalIn
  simp only [Sem.run_bind, run_underlying hk, Result.andThen_ok]
  simp [run_sizeOf hs, hr, h1, h2, h3]
  by_cases hac : a = c
  · subst hac
    by_cases hbd : b = d
    · subst hbd; simp [h1, h2, h3]
    · simp [h1, h2, h3, hbd]
  · simp [h1, h2, h3, hac]
theorem run_check_pair (w : World) (n : Nat) (em : Bool) {kt e : TypeId} {k : IntKind} (hk : P.underlying kt = some (.array 2 e)) (he : P.underlying e = some (.int k)) (hs : tsz P e = some 1) (a b : Int) :
    (Instr.checkKey em (n + 2) kt (.agg #[.int k a, .int k b])).run P w = .ok () w := by
  have h1 : ∀ x : Int, (Instr.checkKey em (n + 1) e (.int k x)).run P w = .ok () w := fun x => by simp [Instr.checkKey, run_underlying he]
  have h2 : ∀ x y : Int, (part e #[Value.int k x, Value.int k y] 0).run P w = .ok (.int k x) w := fun x y => run_part_int w he _ _ _ rfl
  have h3 : ∀ x y : Int, (part e #[Value.int k x, Value.int k y] 1).run P w = .ok (.int k y) w := fun x y => run_part_int w he _ _ _ rfl
  have hr : List.range' 0 2 = [0, 1] := rfl
  unfold Instr.checkKey
  simp [run_underlying hk, run_sizeOf hs, hr, h1, h2, h3]

abbrev MKV := (Int × Int) × List UInt8
/-- Where a key stands. -/
def mfind (k : Int × Int) : List MKV → Option (List UInt8)
  | [] => none
  | p :: es => if k = p.1 then some p.2 else mfind k es

theorem run_findAsking (w : World) {kt e : TypeId} (hk : P.underlying kt = some (.array 2 e)) (he : P.underlying e = some (.int .i64)) (hs : tsz P e = some 1) (k : Int × Int) : ∀ (es : List MKV) (l : List MapEntry) (i : Nat), l.map (fun q => (q.key, q.val)) = es.map (fun p => (mkey p.1, mval p.2)) →
    ∃ j, (Instr.findAsking kt (mkey k) l i).run P w = .ok ((mfind k es).map fun v => (j, mval v)) w
  | [], [], i, _ => ⟨0, by simp [Instr.findAsking, mfind]⟩
  | p :: es, q :: l, i, h => by
    simp only [List.map_cons, List.cons.injEq, Prod.mk.injEq] at h
    obtain ⟨⟨h1, h2⟩, h3⟩ := h
    have hq : (Op.equal kt (mkey k) q.key).run P w = .ok (k.1 == p.1.1 && k.2 == p.1.2) w := by rw [h1]; exact run_equal_pair w 9998 hk he hs _ _ _ _
    obtain ⟨j, ih⟩ := run_findAsking w hk he hs k es l (i + 1) h3
    by_cases hkp : k = p.1
    · refine ⟨i, ?_⟩
      have : (k.1 == p.1.1 && k.2 == p.1.2) = true := by rw [hkp]; simp
      rw [this] at hq
      rw [hkp] at hq ⊢
      simp [Instr.findAsking, hq, mfind, h2]
    · refine ⟨j, ?_⟩
      have : (k.1 == p.1.1 && k.2 == p.1.2) = false := by
        cases hh : (k.1 == p.1.1 && k.2 == p.1.2)
        · rfl
        · simp only [Bool.and_eq_true, beq_iff_eq] at hh
          exact absurd (Prod.ext hh.1 hh.2) hkp
      rw [this] at hq
      simp [Instr.findAsking, hq, mfind, hkp, ih]
  | [], _ :: _, _, h => by simp at h
  | _ :: _, [], _, h => by simp at h

theorem run_findKey (w : World) {kt e : TypeId} (hk : P.underlying kt = some (.array 2 e)) (he : P.underlying e = some (.int .i64)) (hs : tsz P e = some 1) (k : Int × Int) (es : List MKV) (l : List MapEntry) (h : l.map (fun q => (q.key, q.val)) = es.map (fun p => (mkey p.1, mval p.2))) :
    ∃ j, (Instr.findKey kt (mkey k) l).run P w = .ok ((mfind k es).map fun v => (j, mval v)) w := by
  cases l with
  | nil =>
    have : es = [] := by simpa using h.symm
    subst this
    exact ⟨0, by simp [Instr.findKey, run_underlying hk, Instr.findNow, mfind]⟩
  | cons q l =>
    obtain ⟨j, hj⟩ := run_findAsking w hk he hs k es (q :: l) 0 h
    exact ⟨j, by simp [Instr.findKey, run_underlying hk, Instr.findNow, Instr.sameNow, hj]⟩

/-- A map from two numbers to a text. -/
def tmapB (P : Program) (t : TypeId) : Bool :=
  match P.underlying t with
  | some (.map kt vt) => (match P.underlying kt with
    | some (.array n e) => (match P.underlying e with
      | some (.int .i64) => decide (n = 2) && (decide (tsz P e = some 1) && (match P.info? vt with | some i => (match i.zero with | some (.string b) => b.size == 0 | _ => false) | none => false))
      | _ => false)
    | _ => false)
  | _ => false
theorem tmapB_spec {t : TypeId} (h : tmapB P t = true) : ∃ kt vt e i, P.underlying t = some (.map kt vt) ∧ P.underlying kt = some (.array 2 e) ∧ P.underlying e = some (.int .i64) ∧ tsz P e = some 1 ∧ P.info? vt = some i ∧ i.zero = some (.string ⟨#[]⟩) := by
  unfold tmapB at h
  split at h
  · rename_i kt vt h1
    split at h
    · rename_i n e h2
      split at h
      · rename_i h3
        simp only [Bool.and_eq_true, decide_eq_true_eq] at h
        obtain ⟨rfl, h4, h⟩ := h
        split at h
        · rename_i i h5
          split at h
          · rename_i b h6
            have hb : b = ⟨#[]⟩ := by
              have : b.size = 0 := by simpa using h
              cases b with
              | mk d => simp only [ByteArray.size] at this; congr 1; exact Array.eq_empty_of_size_eq_zero this
            subst hb
            exact ⟨kt, vt, e, i, h1, h2, h3, h4, h5, h6⟩
          · cases h
        · cases h
      · cases h
    · cases h
  · cases h

def mlookA (ok : Bool) (r : Option (List UInt8)) : A := match ok with
  | true => .tup [.one (.d (.s (r.getD []))), .one (.d (.v (.bool r.isSome)))]
  | false => .one (.d (.s (r.getD [])))
def mlookV (ok : Bool) (r : Option (List UInt8)) : Value := match ok with
  | true => .tuple #[mval (r.getD []), .bool r.isSome]
  | false => mval (r.getD [])
theorem mlook_rep {w : World} {W : WSet} {E : Env} (ok : Bool) (r : Option (List UInt8)) : RepA w W E (mlookA ok r) (mlookV ok r) := by
  cases ok with
  | true =>
    refine .tup _ [mval (r.getD []), .bool r.isSome] rfl fun k q hk => ?_
    match k, hk with
    | 0, hk => simp at hk; subst hk; exact .one _ _ (RepD.s _)
    | 1, hk => simp at hk; subst hk; exact .one _ _ (.v _ rfl)
    | k + 2, hk => simp at hk
  | false => exact .one _ _ (RepD.s _)

section
variable (P : Program) (s : St)
def aMakeMap (r : Option Operand) (K : A → St → Prop) : Prop := r = none ∧ K (.one (.mp s.n)) (s.newO (.mp []))
def aLookup (t : TypeId) (y ix : Operand) (ok : Bool) (K : A → St → Prop) : Prop :=
  match aeval s y, aeval s ix with
  | .one (.mp id), .agg [.d (.v (.int .i64 a)), .d (.v (.int .i64 b))] => (match s.o id with
    | some (.mp es) => tmapB P t = true ∧ K (mlookA ok (mfind (a, b) es)) s
    | _ => False)
  | _, _ => False
def aMapUpdate (t : TypeId) (y ix v : Operand) (K : A → St → Prop) : Prop :=
  match aeval s y, aeval s ix, aeval s v with
  | .one (.mp id), .agg [.d (.v (.int .i64 a)), .d (.v (.int .i64 b))], .one (.d (.s l)) => (match s.o id with
    | some (.mp es) => tmapB P t = true ∧ (mfind (a, b) es).isNone = true ∧ K (.tup []) (s.setO id (.mp (es ++ [((a, b), l)])))
    | _ => False)
  | _, _, _ => False
end

section
variable {x : Ent} {s : St} {a : Act} {w : World} {K : A → St → Prop}
theorem aMakeMap_sound (h : RepSt P x s a w) {t : TypeId} {r : Option Operand} (hK : aMakeMap s r K) : OpOK P x s a w (do pure (.value (← Instr.makeMap t (r.map a.eval)))) K := by
  obtain ⟨rfl, hK⟩ := hK
  refine ⟨_, _, _, _, .inl ?_, (RepSV.newO h (.mp []) (.map #[] 0) (fun _ _ => ⟨#[], 0, rfl, rfl⟩)).2, hK, rfl⟩
  simp [Instr.makeMap, newObj, Sem.run]

theorem pair_inv {W : WSet} {E : Env} {p q : Int} {v : Value} (h : RepA w W E (.agg [.d (.v (.int .i64 p)), .d (.v (.int .i64 q))]) v) : v = mkey (p, q) := by
  cases h with
  | agg _ vs hl h =>
    match vs, hl with
    | [u1, u2], _ =>
      have e1 := h 0 _ rfl
      have e2 := h 1 _ rfl
      cases e1; cases e2; rfl

theorem run_getMap {w : World} {b : Nat} {l : Array MapEntry} {c : Nat} (hj : w.heap[b]? = some (.map l c)) : (getObj b).run P w = .ok (.map l c) w := by
  simp [getObj, Sem.run, hj]

theorem aLookup_sound (h : RepSt P x s a w) {t : TypeId} {y ix : Operand} {ok : Bool} (hK : aLookup P s t y ix ok K) : OpOK P x s a w (do pure (.value (← Instr.lookup t (a.eval y) (a.eval ix) ok))) K := by
  unfold aLookup at hK
  split at hK
  · rename_i id p q hy hix
    split at hK
    · rename_i es ho
      obtain ⟨ht, hK⟩ := hK
      obtain ⟨kt, vt, e, i, t1, t2, t3, t4, t5, t6⟩ := tmapB_spec ht
      have h0 := h
      obtain ⟨_, _, E, h3, h4⟩ := h
      have hv := aeval_rep h4 y
      rw [hy] at hv
      obtain ⟨_, hv⟩ := one_inv hv
      have hk := aeval_rep h4 ix
      rw [hix] at hk
      have hk := pair_inv hk
      obtain ⟨_, _, j, hj, l, c, rfl, hl⟩ := h3.ob id _ ho
      obtain ⟨n, hf⟩ := run_findKey w t2 t3 t4 (p, q) es l.toList hl
      have hc : (Instr.checkKey l.isEmpty 10000 kt (mkey (p, q))).run P w = .ok () w := run_check_pair w 9998 l.isEmpty t2 t3 t4 p q
      have hrun : (Instr.lookup t (a.eval y) (a.eval ix) ok).run P w = .ok (mlookV ok (mfind (p, q) es)) w := by
        rw [hv, hk]
        simp only [Instr.lookup, Sem.run_bind, run_underlying t1, Result.andThen_ok, run_getMap (P := P) hj, Sem.run_pure, hc, hf]
        generalize mfind (p, q) es = r
        cases r with
        | some v => cases ok <;> simp [mlookV]
        | none => cases ok <;> simp [zeroValue, typeInfo, t5, t6, mval, mlookV]
      exact OpOK.pure h0 (v := mlookV ok (mfind (p, q) es)) (by simp only [Sem.run_bind, hrun, Result.andThen_ok, Sem.run_pure]) (fun _ _ _ => mlook_rep ok _) hK
    · exact hK.elim
  · exact hK.elim

theorem aMapUpdate_sound (h : RepSt P x s a w) {t : TypeId} {y ix v : Operand} (hK : aMapUpdate P s t y ix v K) : OpOK P x s a w (do Instr.mapUpdate t (a.eval y) (a.eval ix) (a.eval v); pure .skip) K := by
  unfold aMapUpdate at hK
  split at hK
  · rename_i id p q u hy hix hu
    split at hK
    · rename_i es ho
      obtain ⟨ht, hno, hK⟩ := hK
      obtain ⟨kt, vt, e, i, t1, t2, t3, t4, t5, t6⟩ := tmapB_spec ht
      have hvu := eval_s h hu
      obtain ⟨h1, h2, E, h3, h4⟩ := h
      have hv := aeval_rep h4 y
      rw [hy] at hv
      obtain ⟨_, hv⟩ := one_inv hv
      have hk := aeval_rep h4 ix
      rw [hix] at hk
      have hk := pair_inv hk
      obtain ⟨_, _, j, hj, l, c, rfl, hl⟩ := h3.ob id _ ho
      obtain ⟨n, hf⟩ := run_findKey w t2 t3 t4 (p, q) es l.toList hl
      have hn : mfind (p, q) es = none := by simpa using hno
      rw [hn] at hf
      have hc : (Instr.checkKey false 10000 kt (mkey (p, q))).run P w = .ok () w := run_check_pair w 9998 false t2 t3 t4 p q
      obtain ⟨g1, g2⟩ := h3.setO (.mp (es ++ [((p, q), u)])) ho (.map (l.push { key := mkey (p, q), val := mval u, born := c }) (c + 1)) (fun _ _ => ⟨_, _, rfl, by simp [hl]⟩)
      refine ⟨_, putO w (E.β id) _, .tup [], s.setO id (.mp (es ++ [((p, q), u)])), .inr ⟨?_, rfl⟩, ⟨h1, h2, E, g1, fun i => (h4 i).keep g2 (.refl E), .tup [] [] rfl (by simp)⟩, hK, rfl⟩
      rw [hv, hk, hvu]
      simp only [Instr.mapUpdate, Sem.run_bind, run_underlying t1, Result.andThen_ok, run_getMap (P := P) hj, Sem.run_pure, hc, hf, Option.map_none]
      simp [setObj, putO, Sem.run, mval, hj]
    · exact hK.elim
  · exact hK.elim

variable {K' : A → St → Prop}
theorem aMakeMap_mono (hq : ∀ r s, K r s → K' r s) {r : Option Operand} (h : aMakeMap s r K) : aMakeMap s r K' := ⟨h.1, hq _ _ h.2⟩
theorem aLookup_mono (hq : ∀ r s, K r s → K' r s) {t : TypeId} {y ix : Operand} {ok : Bool} (h : aLookup P s t y ix ok K) : aLookup P s t y ix ok K' := by
  unfold aLookup at h ⊢
  split at h
  · split at h
    · exact ⟨h.1, hq _ _ h.2⟩
    · exact h.elim
  · exact h.elim
theorem aMapUpdate_mono (hq : ∀ r s, K r s → K' r s) {t : TypeId} {y ix v : Operand} (h : aMapUpdate P s t y ix v K) : aMapUpdate P s t y ix v K' := by
  unfold aMapUpdate at h ⊢
  split at h
  · split at h
    · exact ⟨h.1, h.2.1, hq _ _ h.2.2⟩
    · exact h.elim
  · exact h.elim
theorem aMakeMap_frame {r : Option Operand} (h : aMakeMap s r K) : aMakeMap s r fun r s' => K r s' ∧ s'.t = s.t ∧ s'.h = s.h ∧ s'.H = s.H := ⟨h.1, h.2, rfl, rfl, rfl⟩
theorem aLookup_frame {t : TypeId} {y ix : Operand} {ok : Bool} (h : aLookup P s t y ix ok K) : aLookup P s t y ix ok fun r s' => K r s' ∧ s'.t = s.t ∧ s'.h = s.h ∧ s'.H = s.H := by
  unfold aLookup at h ⊢
  split at h
  · split at h
    · exact ⟨h.1, h.2, rfl, rfl, rfl⟩
    · exact h.elim
  · exact h.elim
theorem aMapUpdate_frame {t : TypeId} {y ix v : Operand} (h : aMapUpdate P s t y ix v K) : aMapUpdate P s t y ix v fun r s' => K r s' ∧ s'.t = s.t ∧ s'.h = s.h ∧ s'.H = s.H := by
  unfold aMapUpdate at h ⊢
  split at h
  · split at h
    · exact ⟨h.1, h.2.1, h.2.2, rfl, rfl, rfl⟩
    · exact h.elim
  · exact h.elim
theorem aMakeMap_set {d : Nat} {q : A} {r : Option Operand} : aMakeMap (s.set d q) r K = aMakeMap s r fun r s' => K r (s'.set d q) := rfl
theorem aLookup_set {d : Nat} {q : A} {t : TypeId} {y ix : Operand} {ok : Bool} (hy : aeval (s.set d q) y = aeval s y) (hix : aeval (s.set d q) ix = aeval s ix) : aLookup P (s.set d q) t y ix ok K = aLookup P s t y ix ok fun r s' => K r (s'.set d q) := by
  unfold aLookup; simp only [hy, hix]; rfl
theorem aMapUpdate_set {d : Nat} {q : A} {t : TypeId} {y ix v : Operand} (hy : aeval (s.set d q) y = aeval s y) (hix : aeval (s.set d q) ix = aeval s ix) (hv : aeval (s.set d q) v = aeval s v) : aMapUpdate P (s.set d q) t y ix v K = aMapUpdate P s t y ix v fun r s' => K r (s'.set d q) := by
  unfold aMapUpdate; simp only [hy, hix, hv]; rfl
end
end maps
end Go.Av
