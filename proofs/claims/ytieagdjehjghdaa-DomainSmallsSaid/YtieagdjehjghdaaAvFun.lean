/-
  A function over pure data: how its contract is stated, used at a call, and proved from its body. Over any program. No toy.
-/
import Derived.Test.YtieagdjehjghdaaAvCode
set_option linter.all false
namespace Go.Av
open Go.RowKit

theorem RepC.lift0 {w : World} {W : WSet} {E : Env} {c : C} {v : Value} (h : RepC w W E0 c v) : RepC w W E c v := by
  cases c with
  | d x => exact h
  | full es => exact h
  | app es k => exact absurd h.2.1 (Nat.not_lt_zero _)
  | ref id off => exact absurd h.1 (Nat.not_lt_zero _)
  | msl id off len cap sz => exact absurd h.1 (Nat.not_lt_zero _)
  | clo f ids =>
    cases ids with
    | nil => exact ⟨by simp, h.2⟩
    | cons i ids => exact absurd (h.1 i (List.mem_cons_self ..)) (Nat.not_lt_zero _)
  | any => exact h

theorem RepA.lift0 {w : World} {W : WSet} {E : Env} {r : A} {v : Value} (h : RepA w W E0 r v) : RepA w W E r v := by
  induction h with
  | one c v h => exact .one c v h.lift0
  | agg cs vs hl h => exact .agg cs vs hl fun k c hc => (h k c hc).lift0
  | tup as vs hl _ ih => exact .tup as vs hl ih
  | any v => exact .any v

/-- The contract of a function that takes pure data and returns pure data, and leaves all memory as it was. -/
def PCall (P : Program) (f : FuncId) (args : List A) (r : A) : Prop :=
  FnOK P f ∧ ∀ (w : World) (W : WSet) (vs : Array Value), (∀ b o, W b o → b < w.heap.size) → vs.size = args.length →
    (∀ (k : Nat) (q : A), args[k]? = some q → RepA w W E0 q (vs.getD k undef)) →
    Calls P f vs w fun e w' => ∃ v, e = .returned v ∧ RepA w' W E0 r v ∧ Below w.heap.size w w'

def alow : A → Option A
  | .one c => (low c).map fun x => .one (.d x)
  | .agg cs => (cs.mapM low).map fun ds => .agg (ds.map C.d)
  | _ => none

theorem mapM_some {α β : Type} {f : α → Option β} : ∀ {l : List α} {r : List β}, l.mapM f = some r → r.length = l.length ∧ ∀ (k : Nat) (y : β), r[k]? = some y → ∃ x, l[k]? = some x ∧ f x = some y
  | [], r, h => by simp at h; subst h; simp
  | x :: l, r, h => by
    simp only [List.mapM_cons, Option.bind_eq_bind, Option.pure_def] at h
    cases hd : f x with
    | none => simp [hd] at h
    | some d =>
      cases hds : l.mapM f with
      | none => simp [hds] at h
      | some ds =>
        simp only [hd, hds, Option.bind_some, Option.some.injEq] at h
        subst h
        obtain ⟨i1, i2⟩ := mapM_some hds
        refine ⟨by simp [i1], fun k y hk => ?_⟩
        cases k with
        | zero => simp at hk; subst hk; exact ⟨x, rfl, hd⟩
        | succ k => simpa using i2 k y (by simpa using hk)

theorem alow_rep {w : World} {W : WSet} {E E' : Env} {r r' : A} {v : Value} (h : RepA w W E r v) (hl : alow r = some r') : RepA w W E' r' v := by
  cases h with
  | one c v h =>
    simp only [alow, Option.map_eq_some_iff] at hl
    obtain ⟨x, hx, rfl⟩ := hl
    exact .one (.d x) v (h.low hx)
  | agg cs vs hlen h =>
    simp only [alow, Option.map_eq_some_iff] at hl
    obtain ⟨ds, hds, rfl⟩ := hl
    obtain ⟨h1, h2⟩ := mapM_some hds
    refine .agg _ vs (by simp [hlen, h1]) fun k c hc => ?_
    simp only [List.getElem?_map, Option.map_eq_some_iff] at hc
    obtain ⟨d, hd, rfl⟩ := hc
    obtain ⟨c, hc, hlo⟩ := h2 k d hd
    exact (h k c hc).low hlo
  | _ => simp [alow] at hl

/-- A call, by a contract over pure data. -/
theorem ACall.pure {P : Program} {f : FuncId} {args args' : List A} {r : A} {s : St} {K : A → St → Prop} (h : PCall P f args' r) (hl : args.mapM alow = some args') (hK : K r s) : ACall P f args s K := by
  refine ⟨h.1, fun x a w vs hx hr hvs hrep => ?_⟩
  obtain ⟨h1, h2, E, h3, h4⟩ := hr
  obtain ⟨l1, l2⟩ := mapM_some hl
  refine (h.2 w (Wn x s E) vs (fun b o hb => h3.wn_lt hx hb) (by rw [hvs, l1]) (fun k q hq => ?_)).mono ?_
  · obtain ⟨r0, hr0, hlow⟩ := l2 k q hq
    exact alow_rep (hrep _ _ h4 k r0 hr0) hlow
  · rintro e w' ⟨v, rfl, hv, hb⟩
    have gr := Grew.of_below hb
    exact ⟨v, r, s, rfl, ⟨h1, h2, E, h3.grew gr, fun i => (h4 i).keep (gr.keeps _) (.refl E), hv.lift0⟩, hK, rfl⟩

/-- What is left of a cell when the call ends: pure. -/
def chunks (sz : Nat) : Nat → List D → List (List D)
  | 0, _ => []
  | n + 1, l => l.take sz :: chunks sz n (l.drop sz)

def lowH (h : Nat → Option (List C)) : Nat → C → Option D
  | 0, c => low c
  | n + 1, c => match c with
    | .msl id off len cap sz => (match h id with
      | some cs => if len ≤ cap ∧ off + len * sz ≤ cs.length then (((cs.drop off).take (len * sz)).mapM (lowH h n)).map fun ds => .sl (chunks sz len ds) else none
      | none => none)
    | .ref id off => (match h id with
      | some cs => ((cs.drop off).mapM (lowH h n)).map D.pp
      | none => none)
    | .clo f ids => (ids.mapM fun id => (h id).bind fun cs => (cs.mapM (lowH h n)).map D.pp).map (D.clo f)
    | c => low c

def finC (h : Nat → Option (List C)) : C → Option C
  | .d x => some (.d x)
  | .full es => some (.full es)
  | .app es _ => some (.d (.sl es))
  | .msl id off len cap sz => (lowH h 3 (.msl id off len cap sz)).bind fun x => match x with | .sl es => (if cap = len then some (.full es) else some (.d (.sl es))) | _ => none
  | .any => some .any
  | c => (lowH h 3 c).map C.d

def finA (h : Nat → Option (List C)) : A → Option A
  | .one c => (finC h c).map A.one
  | .agg cs => (cs.mapM (finC h)).map A.agg
  | .tup as => (finL h as).map A.tup
  | .any => some .any
where finL (h : Nat → Option (List C)) : List A → Option (List A)
  | [] => some []
  | a :: as => match finA h a, finL h as with | some b, some bs => some (b :: bs) | _, _ => none

theorem length_chunks (sz : Nat) : ∀ (n : Nat) (l : List D), (chunks sz n l).length = n
  | 0, _ => rfl
  | n + 1, l => by simp [chunks, length_chunks sz n]
theorem chunks_flat (sz : Nat) : ∀ (n : Nat) (l : List D), l.length = n * sz → (chunks sz n l).flatten = l ∧ ∀ e ∈ chunks sz n l, e.length = sz
  | 0, l, h => by simp at h; subst h; simp [chunks]
  | n + 1, l, h => by
    rw [Nat.succ_mul] at h
    obtain ⟨i1, i2⟩ := chunks_flat sz n (l.drop sz) (by simp; omega)
    refine ⟨by simp [chunks, i1], fun e he => ?_⟩
    simp only [chunks, List.mem_cons] at he
    rcases he with rfl | he
    · simp; omega
    · exact i2 e he

theorem lowH_rep {P : Program} {x : Ent} (hx : x.ok) {s : St} {w : World} {E : Env} (h3 : RepE P x s w E) : ∀ (n : Nat) (c : C) (v : Value) (d : D), RepC w (Wn x s E) E c v → lowH s.h n c = some d → RepD w x.Wf d v := by
  have kp : Keeps w (Wn x s E) w x.Wf := Keeps.anti fun b o h => .inl h
  have hlow : ∀ (c : C) (v : Value) (d : D), RepC w (Wn x s E) E c v → low c = some d → RepD w x.Wf d v := fun c v d h hl => (h.low hl).keep kp
  have hbox : ∀ id cs, s.h id = some cs → ∃ vs t, w.heap[E.β id]? = some (.cells vs t (0, 0)) ∧ vs.size = cs.length ∧ (∀ (k : Nat) (c : C), cs[k]? = some c → RepC w (Wn x s E) E c (vs.getD k undef)) ∧ ∀ o, ¬ x.Wf (E.β id) o := fun id cs hi => by
    obtain ⟨_, vs, t, h1, h2, h4⟩ := h3.box id cs hi
    refine ⟨vs, t, h1, h2, h4, fun o hf => ?_⟩
    rcases h3.fresh (E.β id) o (.inl ⟨id, cs, hi, rfl⟩) with h | h
    · have := hx.wf _ o hf; omega
    · exact hx.apart _ o h hf
  intro n
  induction n with
  | zero => exact fun c v d h hl => hlow c v d h hl
  | succ n ih =>
    have hpp : ∀ id off cs ds, s.h id = some cs → (cs.drop off).mapM (lowH s.h n) = some ds → RepD w x.Wf (.pp ds) (.pointer (some ⟨E.β id, off, none⟩)) := fun id off cs ds hi hds => by
      obtain ⟨vs, t, hb, hsz, hrep, hnf⟩ := hbox id cs hi
      obtain ⟨m1, m2⟩ := mapM_some hds
      rw [List.length_drop] at m1
      refine RepD.pp ds (E.β id) off (fun k => vs.getD (off + k) undef) (fun k hk => ⟨?_, hnf _⟩) (fun k c hk => ?_)
      · rw [cell_of_row w _ _ vs t (0, 0) hb]
        have : off + k < vs.size := by omega
        simp [this]
      · obtain ⟨c', hc', hlo⟩ := m2 k c hk
        rw [List.getElem?_drop] at hc'
        exact ih c' _ c (hrep _ c' hc') hlo
    intro c v d h hl
    cases c with
    | msl id off len cap sz =>
      simp only [lowH] at hl
      split at hl
      · rename_i cs hi
        split at hl
        · rename_i hle
          have hle2 := hle.2
          simp only [Option.map_eq_some_iff] at hl
          obtain ⟨ds, hds, rfl⟩ := hl
          obtain ⟨vs, t, hb, hsz, hrep, hnf⟩ := hbox id cs hi
          obtain ⟨m1, m2⟩ := mapM_some hds
          have hdl : ds.length = len * sz := by rw [m1]; simp; omega
          obtain ⟨c1, c2⟩ := chunks_flat sz len ds hdl
          obtain ⟨_, rfl⟩ := h
          by_cases hlen : len = 0
          · subst hlen; exact RepD.nil _ _
          · have hcl := length_chunks sz len ds
            have := RepD.sl (w := w) (W := x.Wf) (chunks sz len ds) sz (E.β id) off (max len cap) (fun k => vs.getD (off + k) undef) c2 (by rw [hcl]; omega) (fun k hk => by
              rw [c1, hdl] at hk
              refine ⟨?_, hnf _⟩
              rw [cell_of_row w _ _ vs t (0, 0) hb]
              have : off + k < vs.size := by omega
              simp [this]) (fun k c hk => by
              rw [c1] at hk
              obtain ⟨c', hc', hlo⟩ := m2 k c hk
              rw [List.getElem?_take] at hc'
              split at hc'
              · rw [List.getElem?_drop] at hc'
                exact ih c' _ c (hrep _ c' hc') hlo
              · cases hc')
            rw [hcl, Nat.max_eq_right hle.1] at this
            exact this
        · cases hl
      · cases hl
    | ref id off =>
      simp only [lowH] at hl
      split at hl
      · rename_i cs hi
        simp only [Option.map_eq_some_iff] at hl
        obtain ⟨ds, hds, rfl⟩ := hl
        obtain ⟨_, rfl⟩ := h
        exact hpp id off cs ds hi hds
      · cases hl
    | clo f ids =>
      simp only [lowH, Option.map_eq_some_iff] at hl
      obtain ⟨caps, hcaps, rfl⟩ := hl
      obtain ⟨_, rfl⟩ := h
      obtain ⟨m1, m2⟩ := mapM_some hcaps
      refine RepD.clo f caps _ (by simp [m1]) fun k c hk => ?_
      obtain ⟨id, hid, hb⟩ := m2 k c hk
      simp only [Option.bind_eq_some_iff, Option.map_eq_some_iff] at hb
      obtain ⟨cs, hcs, ds, hds, rfl⟩ := hb
      have : (ids.map fun id => Value.pointer (some ⟨E.β id, 0, none⟩)).getD k undef = .pointer (some ⟨E.β id, 0, none⟩) := by
        rw [List.getD_eq_getElem?_getD, List.getElem?_map, hid]; rfl
      rw [this]
      exact hpp id 0 cs ds hcs (by simpa using hds)
    | d x => exact hlow _ v d h hl
    | full es => exact hlow _ v d h hl
    | app es k => exact hlow _ v d h hl
    | any => exact hlow _ v d h hl

theorem finC_rep {P : Program} {x : Ent} (hx : x.ok) {s : St} {w : World} {E : Env} (h3 : RepE P x s w E) {c c' : C} {v : Value} (h : RepC w (Wn x s E) E c v) (hf : finC s.h c = some c') : RepC w x.Wf E0 c' v := by
  have kp : Keeps w (Wn x s E) w x.Wf := Keeps.anti fun b o h => .inl h
  have gen : ∀ d, lowH s.h 3 c = some d → RepC w x.Wf E0 (.d d) v := fun d hd => lowH_rep hx h3 3 c v d h hd
  cases c with
  | d y => simp only [finC, Option.some.injEq] at hf; subst hf; exact RepD.keep h kp
  | full es => simp only [finC, Option.some.injEq] at hf; subst hf; exact ⟨RepD.keep h.1 kp, h.2⟩
  | app es k => simp only [finC, Option.some.injEq] at hf; subst hf; exact RepD.keep h.1 kp
  | any => simp only [finC, Option.some.injEq] at hf; subst hf; exact h
  | msl id off len cap sz =>
    simp only [finC, Option.bind_eq_some_iff] at hf
    obtain ⟨d, hd, hf⟩ := hf
    have hg := gen d hd
    split at hf
    · rename_i es
      split at hf
      · rename_i hcl
        simp only [Option.some.injEq] at hf
        subst hf
        refine ⟨hg, ?_⟩
        obtain ⟨_, rfl⟩ := h
        have hlen : es.length = len := by
          have : RepD w x.Wf (.sl es) (.slice (some ⟨E.β id, off, none⟩) len cap) := hg
          cases this <;> simp_all
        exact ⟨_, by rw [hlen, hcl]⟩
      · simp only [Option.some.injEq] at hf; subst hf; exact hg
    · cases hf
  | ref id off =>
    simp only [finC, Option.map_eq_some_iff] at hf
    obtain ⟨d, hd, rfl⟩ := hf
    exact gen d hd
  | clo f ids =>
    simp only [finC, Option.map_eq_some_iff] at hf
    obtain ⟨d, hd, rfl⟩ := hf
    exact gen d hd

theorem finA_rep {P : Program} {x : Ent} (hx : x.ok) {s : St} {w : World} {E : Env} (h3 : RepE P x s w E) {r : A} {v : Value} (h : RepA w (Wn x s E) E r v) : ∀ r', finA s.h r = some r' → RepA w x.Wf E0 r' v := by
  induction h with
  | one c v h =>
    intro r' hf
    simp only [finA, Option.map_eq_some_iff] at hf
    obtain ⟨c', hc', rfl⟩ := hf
    exact .one c' v (finC_rep hx h3 h hc')
  | agg cs vs hl h =>
    intro r' hf
    simp only [finA, Option.map_eq_some_iff] at hf
    obtain ⟨cs', hcs', rfl⟩ := hf
    obtain ⟨m1, m2⟩ := mapM_some hcs'
    refine .agg cs' vs (by rw [hl, m1]) fun k c hk => ?_
    obtain ⟨c0, hc0, hf0⟩ := m2 k c hk
    exact finC_rep hx h3 (h k c0 hc0) hf0
  | tup as vs hl _ ih =>
    intro r' hf
    simp only [finA, Option.map_eq_some_iff] at hf
    obtain ⟨bs, hbs, rfl⟩ := hf
    have key : ∀ (as : List A) (bs : List A), finA.finL s.h as = some bs → bs.length = as.length ∧ ∀ (k : Nat) (b : A), bs[k]? = some b → ∃ a, as[k]? = some a ∧ finA s.h a = some b := by
      intro as
      induction as with
      | nil => intro bs h; simp only [finA.finL, Option.some.injEq] at h; subst h; simp
      | cons a as ihh =>
        intro bs h
        unfold finA.finL at h
        split at h
        · rename_i b bs' hb hbs'
          simp only [Option.some.injEq] at h
          subst h
          obtain ⟨i1, i2⟩ := ihh bs' hbs'
          refine ⟨by simp [i1], fun k y hk => ?_⟩
          cases k with
          | zero => simp at hk; subst hk; exact ⟨a, rfl, hb⟩
          | succ k => simpa using i2 k y (by simpa using hk)
        · cases h
    obtain ⟨k1, k2⟩ := key as bs hbs
    refine .tup bs vs (by rw [hl, k1]) fun k b hk => ?_
    obtain ⟨a0, ha0, hf0⟩ := k2 k b hk
    exact ih k a0 ha0 b hf0
  | any v =>
    intro r' hf
    simp only [finA, Option.some.injEq] at hf
    subst hf
    exact .any v

/-- The results of a function, as they stand. -/
def ares (P : Program) (s : St) : ResultVar → Option A
  | .tmp t => some (s.t t)
  | .cell addr t => match s.t addr, tagg P t, tsz P t with
    | .one (.ref id off), some true, some sz => (s.h id).bind fun cs => if off + sz ≤ cs.length then some (.agg ((cs.drop off).take sz)) else none
    | .one (.ref id off), some false, some _ => (s.h id).bind fun cs => (cs[off]?).map A.one
    | _, _, _ => none

def aresult (P : Program) (rs : List ResultVar) (s : St) : Option A :=
  match rs with
  | [r] => ares P s r
  | rs => (rs.mapM (ares P s)).map A.tup

def fnPost (P : Program) (rs : List ResultVar) (r : A) : Exit → St → Prop := fun e s =>
  match e with
  | .normal | .ret => (match aresult P rs s with | some q => finA s.h q = some r | none => False)
  | _ => False

def resOne (tmps : Array Value) : ResultVar → Sem Value
  | .tmp t => pure (tmps.getD t undef)
  | .cell b t => do loadVar t (← asAddr (tmps.getD b undef))

theorem results_eq (fn : Func) (tmps : Array Value) : results fn tmps = (do let vs ← fn.results.mapM (resOne tmps); pure (if h : vs.size = 1 then vs[0] else .tuple vs)) := by
  have : (resOne tmps) = (fun | .tmp t => pure (tmps.getD t undef) | .cell a t => do loadVar t (← asAddr (tmps.getD a undef)) : ResultVar → Sem Value) := by
    funext rv; cases rv <;> rfl
  rw [this]
  rfl

theorem ares_run {P : Program} {x : Ent} {s : St} {a : Act} {w : World} {E : Env} (h3 : RepE P x s w E) (h4 : ∀ i, RepA w (Wn x s E) E (s.t i) (a.tmps.getD i undef)) {rv : ResultVar} {q : A} (h : ares P s rv = some q) :
    ∃ v, (resOne a.tmps rv).run P w = .ok v w ∧ RepA w (Wn x s E) E q v := by
  cases rv with
  | tmp t => simp only [ares, Option.some.injEq] at h; subst h; exact ⟨_, rfl, h4 t⟩
  | cell b t =>
    simp only [ares] at h
    have hval : ∀ id off, s.t b = .one (.ref id off) → a.tmps.getD b undef = .pointer (some ⟨E.β id, off, none⟩) := fun id off hb => by
      have := h4 b; rw [hb] at this; exact (one_inv this).2
    have hld : ∀ id off ag sz cs, s.h id = some cs → tagg P t = some ag → tsz P t = some sz → aLoadCells (cs.drop off) ag sz (· = q) →
        ∃ v, (loadVar t ⟨E.β id, off, none⟩).run P w = .ok v w ∧ RepA w (Wn x s E) E q v := fun id off ag sz cs hcs ha hs hl => by
      obtain ⟨_, vs, ty, hb, hsz, hrep⟩ := h3.box id cs hcs
      obtain ⟨v, r, hrun, hr, hk, _⟩ := aLoadCells_sound (w := w) t (cs.drop off) ag sz hs ha (· = q) hl (E.β id) off (Wn x s E) E (fun k => vs.getD (off + k) undef) (fun k c hkc => by
        rw [List.getElem?_drop] at hkc
        refine ⟨?_, hrep _ c hkc⟩
        rw [cell_of_row w (E.β id) (off + k) vs ty (0, 0) hb]
        have : off + k < vs.size := by rw [hsz]; exact (List.getElem?_eq_some_iff.1 hkc).1
        simp [this])
      subst hk
      exact ⟨v, hrun, hr⟩
    split at h
    · rename_i id off sz hb ha hs
      simp only [Option.bind_eq_some_iff] at h
      obtain ⟨cs, hcs, hq⟩ := h
      split at hq
      · rename_i hle
        simp only [Option.some.injEq] at hq
        obtain ⟨v, hrun, hr⟩ := hld id off true sz cs hcs ha hs ⟨by simp; omega, hq⟩
        refine ⟨v, ?_, hr⟩
        simp only [resOne, hval id off hb, Sem.run_bind, asAddr, Sem.run_pure, Result.andThen_ok, hrun]
      · cases hq
    · rename_i id off sz hb ha hs
      simp only [Option.bind_eq_some_iff, Option.map_eq_some_iff] at h
      obtain ⟨cs, hcs, c, hc, rfl⟩ := h
      have hd : cs.drop off = c :: cs.drop (off + 1) := by
        have hlt : off < cs.length := (List.getElem?_eq_some_iff.1 hc).1
        rw [List.drop_eq_getElem_cons hlt]
        congr 1
        exact (List.getElem?_eq_some_iff.1 hc).2
      obtain ⟨v, hrun, hr⟩ := hld id off false sz cs hcs ha hs (by rw [hd]; rfl)
      refine ⟨v, ?_, hr⟩
      simp only [resOne, hval id off hb, Sem.run_bind, asAddr, Sem.run_pure, Result.andThen_ok, hrun]
    · cases h

theorem results_run {P : Program} {fn : Func} {x : Ent} {s : St} {a : Act} {w : World} {E : Env} (h3 : RepE P x s w E) (h4 : ∀ i, RepA w (Wn x s E) E (s.t i) (a.tmps.getD i undef)) {q : A} (h : aresult P fn.results.toList s = some q) :
    ∃ v, (results fn a.tmps).run P w = .ok v w ∧ RepA w (Wn x s E) E q v := by
  have hl : ∀ (rs : List ResultVar) (qs : List A), rs.mapM (ares P s) = some qs →
      ∃ vs : List Value, (rs.mapM (resOne a.tmps)).run P w = .ok vs w ∧ vs.length = qs.length ∧
        ∀ (k : Nat) (q : A), qs[k]? = some q → RepA w (Wn x s E) E q (vs.getD k undef) := by
    intro rs
    induction rs with
    | nil => intro qs h; simp at h; subst h; exact ⟨[], rfl, rfl, by simp⟩
    | cons rv rs ih =>
      intro qs h
      simp only [List.mapM_cons, Option.bind_eq_bind, Option.pure_def] at h
      cases hd : ares P s rv with
      | none => simp [hd] at h
      | some q =>
        cases hds : rs.mapM (ares P s) with
        | none => simp [hds] at h
        | some qs' =>
          simp only [hd, hds, Option.bind_some, Option.some.injEq] at h
          subst h
          obtain ⟨v, hv, hr⟩ := ares_run h3 h4 hd
          obtain ⟨vs, hvs, hl, hrs⟩ := ih qs' hds
          refine ⟨v :: vs, ?_, by simp [hl], fun k q hk => ?_⟩
          · simp only [List.mapM_cons, Sem.run_bind, hv, Result.andThen_ok, hvs, Sem.run_pure]
          · cases k with
            | zero => simp at hk; subst hk; exact hr
            | succ k => simpa using hrs k q (by simpa using hk)
  rw [results_eq, Array.mapM_eq_mapM_toList]
  unfold aresult at h
  split at h
  · rename_i rv hrv
    obtain ⟨v, hv, hr⟩ := ares_run h3 h4 h
    refine ⟨v, ?_, hr⟩
    rw [hrv]
    simp only [List.mapM_cons, List.mapM_nil, Sem.run_bind, Sem.run_map, hv, Result.andThen_ok, Sem.run_pure]
    simp
  · rename_i hne
    simp only [Option.map_eq_some_iff] at h
    obtain ⟨qs, hqs, rfl⟩ := h
    obtain ⟨vs, hvs, hlen, hr⟩ := hl _ qs hqs
    refine ⟨.tuple vs.toArray, ?_, .tup qs vs hlen hr⟩
    simp only [Sem.run_bind, Sem.run_map, hvs, Result.andThen_ok, Sem.run_pure]
    have : vs.length = fn.results.toList.length := by rw [hlen, (mapM_some hqs).1]
    have hn1 : ¬ vs.toArray.size = 1 := by
      intro h1
      simp only [List.size_toArray] at h1
      rw [this] at h1
      match hfr : fn.results.toList with
      | [] => rw [hfr] at h1; simp at h1
      | [r] => exact hne r hfr
      | _ :: _ :: _ => rw [hfr] at h1; simp at h1
    rw [dif_neg hn1]

def entry (args : List A) (m : Nat) : St := { t := fun i => args.getD i (.tup []), m := m, n := 0, h := fun _ => none, tip := fun _ => none, o := fun _ => none }

/-- A loop, by what holds at every round's head. -/
theorem ALoop.inv {P : Program} {c : Code} {Q : Exit → St → Prop} {s : St} (I : Nat → St → Prop) (n : Nat) (h0 : I n s)
    (hstep : ∀ n s, I n s → awp P c (qthen (fun s' => ∃ n', n' < n ∧ I n' s') Q) s) : ALoop P c Q s := by
  induction n using Nat.strongRecOn generalizing s with
  | _ n ih =>
    refine ALoop.round (awp_mono _ (fun e s' h => ?_) _ (hstep n s h0))
    cases e with
    | normal => obtain ⟨n', hn, hi⟩ := h; exact ih n' hn hi
    | exit id => exact h
    | goto l => exact h
    | ret => exact h
    | panic ch => exact h
    | outgrown => exact h

/-- A contract over pure data, from the body. -/
theorem PCall.intro {P : Program} {f : FuncId} {fn : Func} {c : Code} {args : List A} {r : A} {rs : List ResultVar} {m : Nat} (hf : P.funcs[f]? = some fn) (hb : fn.body = some c) (hr : fn.results.toList = rs) (hm : fn.ntmps = m)
    (hname : (fn.name == "runtime.NumGoroutine") = false)
    (h : awp P c (fnPost P rs r) (entry args (args.length + (m - args.length)))) : PCall P f args r := by
  subst hr
  subst hm
  refine ⟨⟨fn, hf, hname, by simp [hb]⟩, fun w W vs hW hvs hrep => ?_⟩
  let x : Ent := { w0 := w, Wf := W, Own0 := fun _ _ => False, E0 := E0 }
  have hx : x.ok := ⟨hW, fun _ _ h => h.elim⟩
  let s0 := entry args (args.length + (fn.ntmps - args.length))
  have hno : ∀ b o, ¬ Own s0 E0 b o := by
    rintro b o (⟨id, cs, h, _⟩ | ⟨k, T, h, _⟩)
    · cases h
    · cases h
  have hE : RepE P x s0 w E0 := {
    fr := ⟨rfl, rfl, rfl, Nat.le_refl _, fun _ _ _ => rfl, fun _ _ _ _ _ h => h⟩
    n := rfl
    le := .refl _
    box := fun id cs h => by cases h
    inj := fun i j p q h => by cases h
    tip := fun k => rfl
    tlt := fun k T h => by cases h
    trow := fun k T h => by cases h
    tbox := fun k T id cs b o h => by cases h
    ttip := fun k k' T T' b o o' h => by cases h
    fresh := fun b o h => absurd h (hno b o)
    ob := fun id o h => by cases h
    oinj := fun i j a b h => by cases h }
  have hst : RepSt P x s0 { tmps := vs ++ Array.replicate (fn.ntmps - vs.size) undef, defers := [] } w := by
    refine ⟨rfl, by simp [s0, entry, hvs], E0, hE, fun i => ?_⟩
    show RepA w _ E0 (args.getD i (.tup [])) _
    have kp : Keeps w W w (Wn x s0 E0) := Keeps.anti fun b o h => h.elim id fun h => absurd h (hno b o)
    by_cases hi : i < args.length
    · have hi' : i < vs.size := by omega
      have h1 := hrep i args[i] (List.getElem?_eq_getElem hi)
      have e1 : args.getD i (.tup []) = args[i] := by simp [hi]
      have e2 : (vs ++ Array.replicate (fn.ntmps - vs.size) undef).getD i undef = vs.getD i undef := by
        rw [Array.getD_eq_getD_getElem?, Array.getElem?_append_left hi', ← Array.getD_eq_getD_getElem?]
      rw [e1, e2]
      exact h1.keep kp (.refl _)
    · have e1 : args.getD i (.tup []) = .tup [] := by simp [hi]
      have e2 : (vs ++ Array.replicate (fn.ntmps - vs.size) undef).getD i undef = undef := by
        rw [Array.getD_eq_getD_getElem?, Array.getElem?_append_right (by omega), Array.getElem?_replicate]
        split <;> rfl
      rw [e1, e2]
      exact .tup [] [] rfl (by simp)
  refine calls_of_wp hf hb (wp_mono (awp_sound _ _ _ h x _ w hx hst) ?_)
  rintro e a' w' ⟨s', hr', hpost, _⟩
  obtain ⟨h1, h2, E, h3, h4⟩ := hr'
  have close : (match aresult P fn.results.toList s' with | some q => finA s'.h q = some r | none => False) → a'.defers = [] ∧ ∃ v, (results fn a'.tmps).run P w' = .ok v w' ∧ ∃ v', Ending.returned v = .returned v' ∧ RepA w' W E0 r v' ∧ Below w.heap.size w w' := fun hp => by
    refine ⟨h1, ?_⟩
    split at hp
    · rename_i q hq
      obtain ⟨v, hv, hrv⟩ := results_run h3 h4 hq
      exact ⟨v, hv, v, rfl, finA_rep hx h3 hrv r hp, ⟨h3.fr.os, h3.fr.tape, h3.fr.output, h3.fr.size, fun b hb => h3.fr.block b hb fun _ h => h⟩⟩
    · exact hp.elim
  cases e with
  | normal => exact close hpost
  | ret => exact close hpost
  | exit id => exact hpost.elim
  | goto l => exact hpost.elim
  | panic ch => exact hpost.elim
  | outgrown => exact hpost.elim


end Go.Av
