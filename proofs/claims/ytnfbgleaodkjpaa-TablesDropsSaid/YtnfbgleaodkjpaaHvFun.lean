/-
  A function over pure data: how its contract is stated, used at a call, and proved from its body. Over any program. No toy.
-/
import Derived.Test.YtnfbgleaodkjpaaHvCode
set_option linter.all false
namespace Go.Av
open Go.RowKit

theorem RepC.lift0 {w : World} {W : WSet} {E : Env} {c : C} {v : Value} (h : RepC w W E0 c v) : RepC w W E c v := by
  cases c with
  | d x => exact h
  | full es => exact h
  | app es k => exact absurd h.2.1 (Nat.not_lt_zero _)
  | ref id off => exact absurd h.1 (Nat.not_lt_zero _)
  | msl id off len cap sz => exact absurd h.1 (Nat.not_lt_zero _)
  | clo f ids =>
    cases ids with
    | nil => exact ⟨by simp, h.2⟩
    | cons i ids => exact absurd (h.1 i (List.mem_cons_self ..)) (Nat.not_lt_zero _)
  | any => exact h
  | hs k off len => exact absurd h.1 (Nat.not_lt_zero _)
  | hp k off => exact absurd h.1 (Nat.not_lt_zero _)
  | mp id => exact absurd h.1 (Nat.not_lt_zero _)
  | hclo f ks =>
    cases ks with
    | nil => exact ⟨by simp, h.2⟩
    | cons i ids => exact absurd (h.1 i (List.mem_cons_self ..)) (Nat.not_lt_zero _)

theorem RepA.lift0 {w : World} {W : WSet} {E : Env} {r : A} {v : Value} (h : RepA w W E0 r v) : RepA w W E r v := by
  induction h with
  | one c v h => exact .one c v h.lift0
  | agg cs vs hl h => exact .agg cs vs hl fun k c hc => (h k c hc).lift0
  | tup as vs hl _ ih => exact .tup as vs hl ih
  | any v => exact .any v

/-- The contract of a function that takes pure data and returns pure data, and leaves all memory as it was. -/
def PCall (P : Program) (f : FuncId) (args : List A) (r : A) : Prop :=
  FnOK P f ∧ ∀ (w : World) (W : WSet) (vs : Array Value), GlW w → (∀ b o, W b o → b < w.heap.size) → vs.size = args.length →
    (∀ (k : Nat) (q : A), args[k]? = some q → RepA w W E0 q (vs.getD k undef)) →
    Calls P f vs w fun e w' => ∃ v, e = .returned v ∧ RepA w' W E0 r v ∧ Below w.heap.size w w'

def alow : A → Option A
  | .one c => (low c).map fun x => .one (.d x)
  | .agg cs => (cs.mapM low).map fun ds => .agg (ds.map C.d)
  | _ => none

theorem mapM_some {α β : Type} {f : α → Option β} : ∀ {l : List α} {r : List β}, l.mapM f = some r → r.length = l.length ∧ ∀ (k : Nat) (y : β), r[k]? = some y → ∃ x, l[k]? = some x ∧ f x = some y
  | [], r, h => by simp at h; subst h; simp
  | x :: l, r, h => by
    simp only [List.mapM_cons, Option.bind_eq_bind, Option.pure_def] at h
    cases hd : f x with
    | none => simp [hd] at h
    | some d =>
      cases hds : l.mapM f with
      | none => simp [hds] at h
      | some ds =>
        simp only [hd, hds, Option.bind_some, Option.some.injEq] at h
        subst h
        obtain ⟨i1, i2⟩ := mapM_some hds
        refine ⟨by simp [i1], fun k y hk => ?_⟩
        cases k with
        | zero => simp at hk; subst hk; exact ⟨x, rfl, hd⟩
        | succ k => simpa using i2 k y (by simpa using hk)

theorem alow_rep {w : World} {W : WSet} {E E' : Env} {r r' : A} {v : Value} (h : RepA w W E r v) (hl : alow r = some r') : RepA w W E' r' v := by
  cases h with
  | one c v h =>
    simp only [alow, Option.map_eq_some_iff] at hl
    obtain ⟨x, hx, rfl⟩ := hl
    exact .one (.d x) v (h.low hx)
  | agg cs vs hlen h =>
    simp only [alow, Option.map_eq_some_iff] at hl
    obtain ⟨ds, hds, rfl⟩ := hl
    obtain ⟨h1, h2⟩ := mapM_some hds
    refine .agg _ vs (by simp [hlen, h1]) fun k c hc => ?_
    simp only [List.getElem?_map, Option.map_eq_some_iff] at hc
    obtain ⟨d, hd, rfl⟩ := hc
    obtain ⟨c, hc, hlo⟩ := h2 k d hd
    exact (h k c hc).low hlo
  | _ => simp [alow] at hl

/-- A call, by a contract over pure data. -/
theorem ACall.pure {P : Program} {f : FuncId} {args args' : List A} {r : A} {s : St} {K : A → St → Prop} (h : PCall P f args' r) (hl : args.mapM alow = some args') (hK : K r s) : ACall P f args s K := by
  refine ⟨h.1, fun x a w vs hx hr hvs hrep => ?_⟩
  obtain ⟨h1, h2, E, h3, h4⟩ := hr
  obtain ⟨l1, l2⟩ := mapM_some hl
  refine (h.2 w (Wn x s E) vs (h3.glw hx) (fun b o hb => h3.wn_lt hx hb) (by rw [hvs, l1]) (fun k q hq => ?_)).mono ?_
  · obtain ⟨r0, hr0, hlow⟩ := l2 k q hq
    exact alow_rep (hrep _ _ h4 k r0 hr0) hlow
  · rintro e w' ⟨v, rfl, hv, hb⟩
    have gr := Grew.of_below hb
    exact ⟨v, r, s, rfl, ⟨h1, h2, E, h3.grew gr, fun i => (h4 i).keep (gr.keeps _) (.refl E), hv.lift0⟩, hK, rfl⟩

/-- What is left of a cell when the call ends: pure. -/
def chunks (sz : Nat) : Nat → List D → List (List D)
  | 0, _ => []
  | n + 1, l => l.take sz :: chunks sz n (l.drop sz)

def lowH (h : Nat → Option (List C)) : Nat → C → Option D
  | 0, c => low c
  | n + 1, c => match c with
    | .msl id off len cap sz => (match h id with
      | some cs => if len ≤ cap ∧ off + len * sz ≤ cs.length then (((cs.drop off).take (len * sz)).mapM (lowH h n)).map fun ds => .sl (chunks sz len ds) else none
      | none => none)
    | .ref id off => (match h id with
      | some cs => ((cs.drop off).mapM (lowH h n)).map D.pp
      | none => none)
    | .clo f ids => (ids.mapM fun id => (h id).bind fun cs => (cs.mapM (lowH h n)).map D.pp).map (D.clo f)
    | c => low c

theorem length_chunks (sz : Nat) : ∀ (n : Nat) (l : List D), (chunks sz n l).length = n
  | 0, _ => rfl
  | n + 1, l => by simp [chunks, length_chunks sz n]
theorem chunks_flat (sz : Nat) : ∀ (n : Nat) (l : List D), l.length = n * sz → (chunks sz n l).flatten = l ∧ ∀ e ∈ chunks sz n l, e.length = sz
  | 0, l, h => by simp at h; subst h; simp [chunks]
  | n + 1, l, h => by
    rw [Nat.succ_mul] at h
    obtain ⟨i1, i2⟩ := chunks_flat sz n (l.drop sz) (by simp; omega)
    refine ⟨by simp [chunks, i1], fun e he => ?_⟩
    simp only [chunks, List.mem_cons] at he
    rcases he with rfl | he
    · simp; omega
    · exact i2 e he

theorem lowH_rep {P : Program} {x : Ent} (hx : x.ok) {s : St} {w : World} {E : Env} (h3 : RepE P x s w E) : ∀ (n : Nat) (c : C) (v : Value) (d : D), RepC w (Wn x s E) E c v → lowH s.h n c = some d → RepD w x.Wf d v := by
  have kp : Keeps w (Wn x s E) w x.Wf := Keeps.anti fun b o h => .inl h
  have hlow : ∀ (c : C) (v : Value) (d : D), RepC w (Wn x s E) E c v → low c = some d → RepD w x.Wf d v := fun c v d h hl => (h.low hl).keep kp
  have hbox : ∀ id cs, s.h id = some cs → ∃ vs t, w.heap[E.β id]? = some (.cells vs t (0, 0)) ∧ vs.size = cs.length ∧ (∀ (k : Nat) (c : C), cs[k]? = some c → RepC w (Wn x s E) E c (vs.getD k undef)) ∧ ∀ o, ¬ x.Wf (E.β id) o := fun id cs hi => by
    obtain ⟨_, vs, t, h1, h2, h4⟩ := h3.box id cs hi
    refine ⟨vs, t, h1, h2, h4, fun o hf => ?_⟩
    rcases h3.fresh (E.β id) o (.inl ⟨id, cs, hi, rfl⟩) with h | h
    · have := hx.wf _ o hf; omega
    · exact hx.apart _ o h hf
  intro n
  induction n with
  | zero => exact fun c v d h hl => hlow c v d h hl
  | succ n ih =>
    have hpp : ∀ id off cs ds, s.h id = some cs → (cs.drop off).mapM (lowH s.h n) = some ds → RepD w x.Wf (.pp ds) (.pointer (some ⟨E.β id, off, none⟩)) := fun id off cs ds hi hds => by
      obtain ⟨vs, t, hb, hsz, hrep, hnf⟩ := hbox id cs hi
      obtain ⟨m1, m2⟩ := mapM_some hds
      rw [List.length_drop] at m1
      refine RepD.pp ds (E.β id) off (fun k => vs.getD (off + k) undef) (fun k hk => ⟨?_, hnf _⟩) (fun k c hk => ?_)
      · rw [cell_of_row w _ _ vs t (0, 0) hb]
        have : off + k < vs.size := by omega
        simp [this]
      · obtain ⟨c', hc', hlo⟩ := m2 k c hk
        rw [List.getElem?_drop] at hc'
        exact ih c' _ c (hrep _ c' hc') hlo
    intro c v d h hl
    cases c with
    | msl id off len cap sz =>
      simp only [lowH] at hl
      split at hl
      · rename_i cs hi
        split at hl
        · rename_i hle
          have hle2 := hle.2
          simp only [Option.map_eq_some_iff] at hl
          obtain ⟨ds, hds, rfl⟩ := hl
          obtain ⟨vs, t, hb, hsz, hrep, hnf⟩ := hbox id cs hi
          obtain ⟨m1, m2⟩ := mapM_some hds
          have hdl : ds.length = len * sz := by rw [m1]; simp; omega
          obtain ⟨c1, c2⟩ := chunks_flat sz len ds hdl
          obtain ⟨_, rfl⟩ := h
          by_cases hlen : len = 0
          · subst hlen; exact RepD.nil _ _
          · have hcl := length_chunks sz len ds
            have := RepD.sl (w := w) (W := x.Wf) (chunks sz len ds) sz (E.β id) off (max len cap) (fun k => vs.getD (off + k) undef) c2 (by rw [hcl]; omega) (fun k hk => by
              rw [c1, hdl] at hk
              refine ⟨?_, hnf _⟩
              rw [cell_of_row w _ _ vs t (0, 0) hb]
              have : off + k < vs.size := by omega
              simp [this]) (fun k c hk => by
              rw [c1] at hk
              obtain ⟨c', hc', hlo⟩ := m2 k c hk
              rw [List.getElem?_take] at hc'
              split at hc'
              · rw [List.getElem?_drop] at hc'
                exact ih c' _ c (hrep _ c' hc') hlo
              · cases hc')
            rw [hcl, Nat.max_eq_right hle.1] at this
            exact this
        · cases hl
      · cases hl
    | ref id off =>
      simp only [lowH] at hl
      split at hl
      · rename_i cs hi
        simp only [Option.map_eq_some_iff] at hl
        obtain ⟨ds, hds, rfl⟩ := hl
        obtain ⟨_, rfl⟩ := h
        exact hpp id off cs ds hi hds
      · cases hl
    | clo f ids =>
      simp only [lowH, Option.map_eq_some_iff] at hl
      obtain ⟨caps, hcaps, rfl⟩ := hl
      obtain ⟨_, rfl⟩ := h
      obtain ⟨m1, m2⟩ := mapM_some hcaps
      refine RepD.clo f caps _ (by simp [m1]) fun k c hk => ?_
      obtain ⟨id, hid, hb⟩ := m2 k c hk
      simp only [Option.bind_eq_some_iff, Option.map_eq_some_iff] at hb
      obtain ⟨cs, hcs, ds, hds, rfl⟩ := hb
      have : (ids.map fun id => Value.pointer (some ⟨E.β id, 0, none⟩)).getD k undef = .pointer (some ⟨E.β id, 0, none⟩) := by
        rw [List.getD_eq_getElem?_getD, List.getElem?_map, hid]; rfl
      rw [this]
      exact hpp id 0 cs ds hcs (by simpa using hds)
    | d x => exact hlow _ v d h hl
    | full es => exact hlow _ v d h hl
    | app es k => exact hlow _ v d h hl
    | any => exact hlow _ v d h hl
    | hs k off len => exact hlow _ v d h hl
    | hp k off => exact hlow _ v d h hl
    | hclo f ks => exact hlow _ v d h hl
    | mp id => exact hlow _ v d h hl

/-- The results of a function, as they stand. -/
def ares (P : Program) (s : St) : ResultVar → Option A
  | .tmp t => some (s.t t)
  | .cell addr t => match s.t addr, tagg P t, tsz P t with
    | .one (.ref id off), some true, some sz => (s.h id).bind fun cs => if off + sz ≤ cs.length then some (.agg ((cs.drop off).take sz)) else none
    | .one (.ref id off), some false, some _ => (s.h id).bind fun cs => (cs[off]?).map A.one
    | _, _, _ => none

def aresult (P : Program) (rs : List ResultVar) (s : St) : Option A :=
  match rs with
  | [r] => ares P s r
  | rs => (rs.mapM (ares P s)).map A.tup

def resOne (tmps : Array Value) : ResultVar → Sem Value
  | .tmp t => pure (tmps.getD t undef)
  | .cell b t => do loadVar t (← asAddr (tmps.getD b undef))

theorem results_eq (fn : Func) (tmps : Array Value) : results fn tmps = (do let vs ← fn.results.mapM (resOne tmps); pure (if h : vs.size = 1 then vs[0] else .tuple vs)) := by
  have : (resOne tmps) = (fun | .tmp t => pure (tmps.getD t undef) | .cell a t => do loadVar t (← asAddr (tmps.getD a undef)) : ResultVar → Sem Value) := by
    funext rv; cases rv <;> rfl
  rw [this]
  rfl

theorem ares_run {P : Program} {x : Ent} {s : St} {a : Act} {w : World} {E : Env} (h3 : RepE P x s w E) (h4 : ∀ i, RepA w (Wn x s E) E (s.t i) (a.tmps.getD i undef)) {rv : ResultVar} {q : A} (h : ares P s rv = some q) :
    ∃ v, (resOne a.tmps rv).run P w = .ok v w ∧ RepA w (Wn x s E) E q v := by
  cases rv with
  | tmp t => simp only [ares, Option.some.injEq] at h; subst h; exact ⟨_, rfl, h4 t⟩
  | cell b t =>
    simp only [ares] at h
    have hval : ∀ id off, s.t b = .one (.ref id off) → a.tmps.getD b undef = .pointer (some ⟨E.β id, off, none⟩) := fun id off hb => by
      have := h4 b; rw [hb] at this; exact (one_inv this).2
    have hld : ∀ id off ag sz cs, s.h id = some cs → tagg P t = some ag → tsz P t = some sz → aLoadCells (cs.drop off) ag sz (· = q) →
        ∃ v, (loadVar t ⟨E.β id, off, none⟩).run P w = .ok v w ∧ RepA w (Wn x s E) E q v := fun id off ag sz cs hcs ha hs hl => by
      obtain ⟨_, vs, ty, hb, hsz, hrep⟩ := h3.box id cs hcs
      obtain ⟨v, r, hrun, hr, hk, _⟩ := aLoadCells_sound (w := w) t (cs.drop off) ag sz hs ha (· = q) hl (E.β id) off (Wn x s E) E (fun k => vs.getD (off + k) undef) (fun k c hkc => by
        rw [List.getElem?_drop] at hkc
        refine ⟨?_, hrep _ c hkc⟩
        rw [cell_of_row w (E.β id) (off + k) vs ty (0, 0) hb]
        have : off + k < vs.size := by rw [hsz]; exact (List.getElem?_eq_some_iff.1 hkc).1
        simp [this])
      subst hk
      exact ⟨v, hrun, hr⟩
    split at h
    · rename_i id off sz hb ha hs
      simp only [Option.bind_eq_some_iff] at h
      obtain ⟨cs, hcs, hq⟩ := h
      split at hq
      · rename_i hle
        simp only [Option.some.injEq] at hq
        obtain ⟨v, hrun, hr⟩ := hld id off true sz cs hcs ha hs ⟨by simp; omega, hq⟩
        refine ⟨v, ?_, hr⟩
        simp only [resOne, hval id off hb, Sem.run_bind, asAddr, Sem.run_pure, Result.andThen_ok, hrun]
      · cases hq
    · rename_i id off sz hb ha hs
      simp only [Option.bind_eq_some_iff, Option.map_eq_some_iff] at h
      obtain ⟨cs, hcs, c, hc, rfl⟩ := h
      have hd : cs.drop off = c :: cs.drop (off + 1) := by
        have hlt : off < cs.length := (List.getElem?_eq_some_iff.1 hc).1
        rw [List.drop_eq_getElem_cons hlt]
        congr 1
        exact (List.getElem?_eq_some_iff.1 hc).2
      obtain ⟨v, hrun, hr⟩ := hld id off false sz cs hcs ha hs (by rw [hd]; rfl)
      refine ⟨v, ?_, hr⟩
      simp only [resOne, hval id off hb, Sem.run_bind, asAddr, Sem.run_pure, Result.andThen_ok, hrun]
    · cases h

theorem results_run {P : Program} {fn : Func} {x : Ent} {s : St} {a : Act} {w : World} {E : Env} (h3 : RepE P x s w E) (h4 : ∀ i, RepA w (Wn x s E) E (s.t i) (a.tmps.getD i undef)) {q : A} (h : aresult P fn.results.toList s = some q) :
    ∃ v, (results fn a.tmps).run P w = .ok v w ∧ RepA w (Wn x s E) E q v := by
  have hl : ∀ (rs : List ResultVar) (qs : List A), rs.mapM (ares P s) = some qs →
      ∃ vs : List Value, (rs.mapM (resOne a.tmps)).run P w = .ok vs w ∧ vs.length = qs.length ∧
        ∀ (k : Nat) (q : A), qs[k]? = some q → RepA w (Wn x s E) E q (vs.getD k undef) := by
    intro rs
    induction rs with
    | nil => intro qs h; simp at h; subst h; exact ⟨[], rfl, rfl, by simp⟩
    | cons rv rs ih =>
      intro qs h
      simp only [List.mapM_cons, Option.bind_eq_bind, Option.pure_def] at h
      cases hd : ares P s rv with
      | none => simp [hd] at h
      | some q =>
        cases hds : rs.mapM (ares P s) with
        | none => simp [hds] at h
        | some qs' =>
          simp only [hd, hds, Option.bind_some, Option.some.injEq] at h
          subst h
          obtain ⟨v, hv, hr⟩ := ares_run h3 h4 hd
          obtain ⟨vs, hvs, hl, hrs⟩ := ih qs' hds
          refine ⟨v :: vs, ?_, by simp [hl], fun k q hk => ?_⟩
          · simp only [List.mapM_cons, Sem.run_bind, hv, Result.andThen_ok, hvs, Sem.run_pure]
          · cases k with
            | zero => simp at hk; subst hk; exact hr
            | succ k => simpa using hrs k q (by simpa using hk)
  rw [results_eq, Array.mapM_eq_mapM_toList]
  unfold aresult at h
  split at h
  · rename_i rv hrv
    obtain ⟨v, hv, hr⟩ := ares_run h3 h4 h
    refine ⟨v, ?_, hr⟩
    rw [hrv]
    simp only [List.mapM_cons, List.mapM_nil, Sem.run_bind, Sem.run_map, hv, Result.andThen_ok, Sem.run_pure]
    simp
  · rename_i hne
    simp only [Option.map_eq_some_iff] at h
    obtain ⟨qs, hqs, rfl⟩ := h
    obtain ⟨vs, hvs, hlen, hr⟩ := hl _ qs hqs
    refine ⟨.tuple vs.toArray, ?_, .tup qs vs hlen hr⟩
    simp only [Sem.run_bind, Sem.run_map, hvs, Result.andThen_ok, Sem.run_pure]
    have : vs.length = fn.results.toList.length := by rw [hlen, (mapM_some hqs).1]
    have hn1 : ¬ vs.toArray.size = 1 := by
      intro h1
      simp only [List.size_toArray] at h1
      rw [this] at h1
      match hfr : fn.results.toList with
      | [] => rw [hfr] at h1; simp at h1
      | [r] => exact hne r hfr
      | _ :: _ :: _ => rw [hfr] at h1; simp at h1
    rw [dif_neg hn1]

def entry (args : List A) (m : Nat) : St := { t := fun i => args.getD i (.tup []), m := m, n := 0, h := fun _ => none, tip := fun _ => none, o := fun _ => none }

end Go.Av
