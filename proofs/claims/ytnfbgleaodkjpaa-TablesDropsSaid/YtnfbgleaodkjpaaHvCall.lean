/-
  A function that is given blocks under counted names, and gives them back: its contract, and how it is used at a call. Over any program. No toy.
-/
import Derived.Test.YtnfbgleaodkjpaaHvFun
set_option linter.all false
namespace Go.Av
open Go.RowKit

def hst (H : Hp) : St := { t := fun _ => .any, m := 0, n := 0, h := fun _ => none, tip := fun _ => none, o := fun _ => none, H := H }
def Env.h0 (E : Env) : Env := { n := 0, β := fun _ => 0, τ := fun _ => none, hn := E.hn, γ := E.γ, gs := E.gs }

/-- The contract of a function that may write into the blocks it is given, and makes others. -/
def HCall (P : Program) (f : FuncId) (args : List A) (H : Hp) (r : A) (H' : Hp) : Prop :=
  FnOK P f ∧ ∀ (w : World) (W : WSet) (E : Env) (vs : Array Value), GlW w → (∀ o, ¬ OwnH (hst H) E 0 o) → (∀ b o, W b o → b < w.heap.size) → (∀ b o, OwnH (hst H) E b o → ¬ W b o) → RepE P ⟨w, W, OwnH (hst H) E, E⟩ (hst H) w E → vs.size = args.length →
    (∀ (k : Nat) (q : A), args[k]? = some q → RepA w (Wn ⟨w, W, OwnH (hst H) E, E⟩ (hst H) E) E q (vs.getD k undef)) →
    Calls P f vs w fun e w' => ∃ v E', e = .returned v ∧ RepE P ⟨w, W, OwnH (hst H) E, E⟩ (hst H') w' E' ∧ E.le E' ∧ RepA w' (Wn ⟨w, W, OwnH (hst H) E, E⟩ (hst H') E') E' r v

theorem own_hst {H : Hp} {E : Env} (hτ : E.τ = fun _ => none) {b o : Nat} (h : Own (hst H) E b o) : OwnH (hst H) E b o := by
  rcases h with ⟨id, cs, hi, _⟩ | ⟨k, T, hk, _⟩ | h
  · cases hi
  · rw [hτ] at hk; cases hk
  · exact h

/-- Closed cells depend on the counted names alone. -/
theorem RepC.henv {w : World} {W : WSet} {E E' : Env} (hn : E'.hn = E.hn) (hγ : E'.γ = E.γ) (hgs : E'.gs = E.gs) {c : C} {v : Value} (hc : c.hok = true) (h : RepC w W E c v) : RepC w W E' c v := by
  cases c with
  | d x => exact h
  | full es => exact h
  | hs k off len => unfold RepC at h ⊢; rw [hn, hγ, hgs]; exact h
  | hp k off => unfold RepC at h ⊢; rw [hn, hγ]; exact h
  | hclo f ks => unfold RepC at h ⊢; rw [hn, hγ]; exact h
  | _ => cases hc

/-- What is met where no plain name is met. -/
theorem RepC.hlift {w : World} {W : WSet} {E E' : Env} (h0 : E.n = 0) (hn : E'.hn = E.hn) (hγ : E'.γ = E.γ) (hgs : E'.gs = E.gs) {c : C} {v : Value} (h : RepC w W E c v) : RepC w W E' c v := by
  cases c with
  | d x => exact h
  | full es => exact h
  | app es k => exact absurd (h0 ▸ h.2.1) (Nat.not_lt_zero _)
  | ref id off => exact absurd (h0 ▸ h.1) (Nat.not_lt_zero _)
  | msl id off len cap sz => exact absurd (h0 ▸ h.1) (Nat.not_lt_zero _)
  | clo f ids =>
    cases ids with
    | nil => exact ⟨by simp, h.2⟩
    | cons i ids => exact absurd (h0 ▸ h.1 i (List.mem_cons_self ..)) (Nat.not_lt_zero _)
  | any => exact h
  | mp id => exact absurd (h0 ▸ h.1) (Nat.not_lt_zero _)
  | hs k off len => exact h.henv hn hγ hgs rfl
  | hp k off => exact h.henv hn hγ hgs rfl
  | hclo f ks => exact h.henv hn hγ hgs rfl

theorem RepA.hlift {w : World} {W : WSet} {E E' : Env} (h0 : E.n = 0) (hn : E'.hn = E.hn) (hγ : E'.γ = E.γ) (hgs : E'.gs = E.gs) {r : A} {v : Value} (h : RepA w W E r v) : RepA w W E' r v := by
  induction h with
  | one c v h => exact .one c v (h.hlift h0 hn hγ hgs)
  | agg cs vs hl h => exact .agg cs vs hl fun k c hc => (h k c hc).hlift h0 hn hγ hgs
  | tup as vs hl _ ih => exact .tup as vs hl ih
  | any v => exact .any v

/-- An argument that bears no plain name. -/
def ahok : A → Option A
  | .one c => if c.hok then some (.one c) else (low c).map fun x => .one (.d x)
  | .agg cs => (cs.mapM low).map fun ds => .agg (ds.map C.d)
  | _ => none
theorem ahok_rep {w : World} {W : WSet} {E E' : Env} (hn : E'.hn = E.hn) (hγ : E'.γ = E.γ) (hgs : E'.gs = E.gs) {r r' : A} {v : Value} (h : RepA w W E r v) (hl : ahok r = some r') : RepA w W E' r' v := by
  cases r with
  | one c =>
    simp only [ahok] at hl
    split at hl
    · rename_i hk
      simp only [Option.some.injEq] at hl
      subst hl
      exact .one _ _ ((one_inv h).henv hn hγ hgs hk)
    · exact alow_rep h (by simpa [alow] using hl)
  | agg cs => exact alow_rep h (by simpa [ahok, alow] using hl)
  | tup as => cases hl
  | any => cases hl

section
variable {P : Program} {x : Ent} {s : St} {w : World} {E : Env}

/-- A state without its plain names. -/
theorem RepE.bare (h3 : RepE P x s w E) (hle : x.E0.le E.h0) : RepE P x (hst s.H) w E.h0 ∧ (∀ b o, Wn x (hst s.H) E.h0 b o → Wn x s E b o) := by
  have hown : ∀ b o, Own (hst s.H) E.h0 b o → OwnH s E b o := fun b o h => own_hst (E := E.h0) rfl h
  have hW : ∀ b o, Wn x (hst s.H) E.h0 b o → Wn x s E b o := fun b o h => h.imp id fun h => .inr (.inr (hown b o h))
  refine ⟨?_, hW⟩
  exact {
    fr := h3.fr
    n := rfl
    le := hle
    box := fun id cs h => by cases h
    inj := fun i j p q h => by cases h
    tip := fun k => rfl
    tlt := fun k T h => by cases h
    trow := fun k T h => by cases h
    tbox := fun k T id cs b o h => by cases h
    ttip := fun k k' T T' b o o' h => by cases h
    fresh := fun b o h => h3.ownH_fresh (hown b o h)
    ob := fun id o h => by cases h
    oinj := fun i j a b h => by cases h
    hp := {
      n := h3.hp.n
      ob := fun k o hk => by
        obtain ⟨vs, t, b1, b2, b3, b4, b5⟩ := h3.hp.ob k o hk
        exact ⟨vs, t, b1, b2, b3, b4, fun i c hi => ⟨(b5 i c hi).1, RepC.henv (E := E) (E' := E.h0) rfl rfl rfl (b5 i c hi).1 ((b5 i c hi).2.keep (Keeps.anti hW) (.refl E))⟩⟩
      inj := h3.hp.inj
      box := fun k o id cs hk hi => by cases hi
      tip := fun k o j T b p hk hj => by cases hj } }

theorem ACall.heap {f : FuncId} {args args' : List A} {r : A} {H' : Hp} {K : A → St → Prop} (h : HCall P f args' s.H r H') (hl : args.mapM ahok = some args') (hK : K r (s.hput H')) : ACall P f args s K := by
  refine ⟨h.1, fun x a w vs hx hr hvs hrep => ?_⟩
  obtain ⟨h1, h2, E, h3, h4⟩ := hr
  obtain ⟨l1, l2⟩ := mapM_some hl
  let W1 : WSet := fun b o => Wn x s E b o ∧ ¬ OwnH s E b o
  let x1 : Ent := ⟨w, W1, OwnH (hst s.H) E.h0, E.h0⟩
  have hWiff : ∀ b o, Wn x1 (hst s.H) E.h0 b o ↔ Wn x s E b o := fun b o => by
    constructor
    · rintro (h | h)
      · exact h.1
      · exact .inr (.inr (.inr (own_hst (E := E.h0) rfl h)))
    · intro h
      by_cases ho : OwnH s E b o
      · exact .inr (.inr (.inr ho))
      · exact .inl ⟨h, ho⟩
  have kp0 : Keeps w (Wn x s E) w (Wn x1 (hst s.H) E.h0) := Keeps.anti fun b o h => (hWiff b o).1 h
  have hE1 : RepE P x1 (hst s.H) w E.h0 := {
    fr := ⟨rfl, rfl, rfl, Nat.le_refl _, fun _ _ _ => rfl, fun _ _ _ _ _ h => h⟩
    n := rfl
    le := .refl _
    box := fun id cs h => by cases h
    inj := fun i j p q h => by cases h
    tip := fun k => rfl
    tlt := fun k T h => by cases h
    trow := fun k T h => by cases h
    tbox := fun k T id cs b o h => by cases h
    ttip := fun k k' T T' b o o' h => by cases h
    fresh := fun b o h => .inr (own_hst (E := E.h0) rfl h)
    ob := fun id o h => by cases h
    oinj := fun i j a b h => by cases h
    hp := {
      n := h3.hp.n
      ob := fun k o hk => by
        obtain ⟨vs, t, b1, b2, b3, b4, b5⟩ := h3.hp.ob k o hk
        exact ⟨vs, t, b1, b2, b3, b4, fun i c hi => ⟨(b5 i c hi).1, RepC.henv (E := E) (E' := E.h0) rfl rfl rfl (b5 i c hi).1 ((b5 i c hi).2.keep kp0 (.refl E))⟩⟩
      inj := h3.hp.inj
      box := fun k o id cs hk hi => by cases hi
      tip := fun k o j T b p hk hj => by cases hj } }
  refine (h.2 w W1 E.h0 vs (h3.glw hx) (fun o ho => h3.noH hx o ho) (fun b o hb => h3.wn_lt hx hb.1) (fun b o ho hw => hw.2 ho) hE1 (by rw [hvs, l1]) (fun k q hq => ?_)).mono ?_
  · obtain ⟨r0, hr0, hlow⟩ := l2 k q hq
    exact ahok_rep (E := E) (E' := E.h0) rfl rfl rfl ((hrep _ _ h4 k r0 hr0).keep kp0 (.refl E)) hlow
  · rintro e w' ⟨v, E2, rfl, hE2, hle2, hv⟩
    have hE2 : RepE P x1 (hst H') w' E2 := hE2
    have hv : RepA w' (Wn x1 (hst H') E2) E2 r v := hv
    have hn2 : E2.n = 0 := hE2.n
    have hτ2 : E2.τ = fun _ => none := by
      funext k
      cases hk : E2.τ k with
      | none => rfl
      | some T => exact absurd (hE2.tlt k T hk).1 (Nat.not_lt_zero _)
    let E3 : Env := { E with hn := E2.hn, γ := E2.γ, gs := E2.gs }
    let s' : St := s.hput H'
    have hle : E.le E3 := ⟨Nat.le_refl _, fun _ _ => rfl, fun _ _ T h => ⟨T, h, .inl rfl⟩, hle2.hn, hle2.γ⟩
    have hfr1 := hE2.fr
    have hoH : ∀ b o, OwnH s' E3 b o → w.heap.size ≤ b ∨ OwnH s E b o := fun b o h => hE2.fresh b o (.inr (.inr h))
    have hblk : ∀ b, b < w.heap.size → (∀ k o, s.H[k]? = some (some o) → E.γ k ≠ b) → w'.heap[b]? = w.heap[b]? := fun b hb hne =>
      hfr1.block b hb fun p ⟨k, o, hk, he⟩ => hne k o hk he
    have kp : Keeps w (Wn x s E) w' (Wn x s' E3) := by
      intro b p u hc hW
      have hno : ¬ OwnH s E b p := fun h => hW (.inr (.inr (.inr h)))
      have hlt := World.block_lt_of_cell? w _ hc
      refine ⟨hfr1.cell b p u hlt hno hc, ?_⟩
      rintro (h | h | h | h)
      · exact hW (.inl h)
      · exact hW (.inr (.inl h))
      · exact hW (.inr (.inr (.inl h)))
      · rcases hoH b p h with h | h
        · exact absurd hlt (by show ¬ b < w.heap.size; omega)
        · exact hno h
    have hWf : ∀ b p, ¬ Wn x1 (hst H') E2 b p → ¬ Wn x s' E3 b p := by
      intro b p hn hW
      rcases hW with h | h | h | h
      · refine hn (.inl ⟨.inl h, fun ho => ?_⟩)
        rcases h3.ownH_fresh ho with h5 | h5
        · have := hx.wf b p h; omega
        · exact hx.apart b p h5 h
      · refine hn (.inl ⟨.inr (.inl h), fun ho => ?_⟩)
        obtain ⟨id, cs, hi, hb⟩ := h
        obtain ⟨k, o, hk, hg⟩ := ho
        exact h3.hp.box k o id cs hk hi (hg.trans hb.symm)
      · refine hn (.inl ⟨.inr (.inr (.inl h)), fun ho => ?_⟩)
        obtain ⟨j, T, hj, hs⟩ := h
        obtain ⟨k, o, hk, hg⟩ := ho
        exact h3.hp.tip k o j T b p hk hj hs hg
      · exact hn (.inr (.inr (.inr h)))
    have kp2 : Keeps w' (Wn x1 (hst H') E2) w' (Wn x s' E3) := fun b p u hc hn => ⟨hc, hWf b p hn⟩
    refine ⟨v, r, s', rfl, ⟨h1, h2, E3, ?_, fun i => (h4 i).keep kp hle, ?_⟩, hK, rfl⟩
    · refine h3.other rfl rfl rfl rfl rfl rfl rfl hle ?_ hblk kp (fun b o h => ?_) ?_
      · have hfr := h3.fr
        have hsz : w.heap.size ≤ w'.heap.size := hfr1.size
        refine ⟨hfr1.os.trans hfr.os, hfr1.tape.trans hfr.tape, hfr1.output.trans hfr.output, Nat.le_trans hfr.size hsz, fun b hb ho => ?_, fun b p u hb ho hc => ?_⟩
        · have hno : ∀ p, ¬ OwnH s E b p := fun p h => by
            rcases h3.ownH_fresh h with h5 | h5
            · omega
            · exact ho p h5
          exact (hfr1.block b (Nat.lt_of_lt_of_le hb hfr.size) hno).trans (hfr.block b hb ho)
        · have hno : ¬ OwnH s E b p := fun h => by
            rcases h3.ownH_fresh h with h5 | h5
            · omega
            · exact ho h5
          exact hfr1.cell b p u (Nat.lt_of_lt_of_le hb hfr.size) hno (hfr.cell b p u hb ho hc)
      · rcases hoH b o h with h | h
        · have := h3.fr.size; exact .inl (by omega)
        · exact h3.ownH_fresh h
      · exact {
          n := hE2.hp.n
          ob := fun k o hk => by
            obtain ⟨vs', t, b1, b2, b3, b4, b5⟩ := hE2.hp.ob k o hk
            exact ⟨vs', t, b1, b2, b3, b4, fun i c hi => ⟨(b5 i c hi).1, RepC.henv (E := E2) (E' := E3) rfl rfl rfl (b5 i c hi).1 ((b5 i c hi).2.keep kp2 (.refl E2))⟩⟩
          inj := hE2.hp.inj
          box := fun k o id cs hk hi he => by
            have hlt := (h3.box id cs hi).2.lt
            have he : E2.γ k = E.β id := he
            rcases hoH (E2.γ k) 0 ⟨k, o, hk, rfl⟩ with h | ⟨j, q, hj, hg⟩
            · omega
            · exact h3.hp.box j q id cs hj hi (hg.trans he)
          tip := fun k o j T b p hk hj hs he => by
            have hj : E.τ j = some T := hj
            have hlt := h3.own_lt (b := b) (o := p) (.inr (.inl ⟨j, T, hj, hs⟩))
            have he : E2.γ k = b := he
            rcases hoH (E2.γ k) 0 ⟨k, o, hk, rfl⟩ with h | ⟨i, q, hi, hg⟩
            · omega
            · exact h3.hp.tip i q j T b p hi hj hs (hg.trans he) }
    · exact RepA.hlift (E := E2) (E' := E3) hn2 rfl rfl rfl (hv.keep kp2 (.refl E2))
end
end Go.Av
