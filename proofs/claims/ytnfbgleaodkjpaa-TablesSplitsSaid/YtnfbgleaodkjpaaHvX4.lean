/-
  What may be forgotten of an abstract state. Over any program. No toy.
-/
import Derived.Test.YtnfbgleaodkjpaaHvXH
set_option linter.all false
namespace Go.Av
open Go.RowKit

def C.lt (n : Nat) : C → Prop
  | .app _ k => k < n
  | .ref id _ => id < n
  | .msl id _ _ _ _ => id < n
  | .clo _ ids => ∀ i ∈ ids, i < n
  | .mp id => id < n
  | _ => True
def A.lt (n : Nat) : A → Prop
  | .one c => c.lt n
  | .agg cs => ∀ c ∈ cs, c.lt n
  | .tup _ => False
  | .any => True

/-- Less said of a cell, of a value. -/
def Cw (c c' : C) : Prop := c' = c ∨ ∃ d, low c = some d ∧ c' = .d d
inductive Csw : List C → List C → Prop where
  | nil : Csw [] []
  | cons {c c' : C} {cs cs' : List C} (h : Cw c c') (hs : Csw cs cs') : Csw (c :: cs) (c' :: cs')
theorem Csw.len {cs cs' : List C} (h : Csw cs cs') : cs'.length = cs.length := by induction h <;> simp_all
theorem Csw.get {cs cs' : List C} (h : Csw cs cs') : ∀ (k : Nat) (c' : C), cs'[k]? = some c' → ∃ c, cs[k]? = some c ∧ Cw c c' := by
  induction h with
  | nil => intro k c' h; simp at h
  | cons h _ ih =>
    intro k c' hk
    cases k with
    | zero => simp at hk; subst hk; exact ⟨_, rfl, h⟩
    | succ k => simpa using ih k c' (by simpa using hk)
theorem Csw.refl : ∀ cs : List C, Csw cs cs
  | [] => .nil
  | c :: cs => .cons (.inl rfl) (Csw.refl cs)
inductive Aw : A → A → Prop where
  | one {c c' : C} (h : Cw c c') : Aw (.one c) (.one c')
  | agg {cs cs' : List C} (h : Csw cs cs') : Aw (.agg cs) (.agg cs')

structure Wk (s s' : St) : Prop where
  m : s'.m = s.m
  n : s'.n ≤ s.n
  t : ∀ i, (Aw (s.t i) (s'.t i) ∧ (s'.t i).lt s'.n) ∨ s'.t i = .any
  h : ∀ id cs', s'.h id = some cs' → ∃ cs, s.h id = some cs ∧ Csw cs cs' ∧ id < s'.n ∧ ∀ c ∈ cs', c.lt s'.n
  tip : ∀ k y, s'.tip k = some y → s.tip k = some y ∧ k < s'.n
  o : ∀ k y, s'.o k = some y → s.o k = some y ∧ k < s'.n
  H : s'.H = s.H

theorem RepC.weak {w : World} {W : WSet} {E : Env} {n : Nat} {τ : Nat → Option Tip} (hτ : ∀ k T, τ k = some T → E.τ k = some T) {c : C} {v : Value} (h : RepC w W E c v) (hl : c.lt n) :
    RepC w W { n := n, β := E.β, τ := τ, hn := E.hn, γ := E.γ, gs := E.gs } c v := by
  cases c with
  | app es k => exact ⟨h.1, hl, fun T hT => h.2.2 T (hτ k T hT)⟩
  | ref id off => exact ⟨hl, h.2⟩
  | msl id off len cap sz => exact ⟨hl, h.2⟩
  | clo f ids => exact ⟨hl, h.2⟩
  | d x => exact h
  | full es => exact h
  | any => exact h
  | hs k off len => exact h
  | hp k off => exact h
  | hclo f ks => exact h
  | mp id => exact ⟨hl, h.2⟩

theorem RepC.antiW {w : World} {W W' : WSet} {E : Env} (hW : ∀ b o, W' b o → W b o) {c : C} {v : Value} (h : RepC w W E c v) : RepC w W' E c v := h.keep (Keeps.anti hW) (.refl E)

theorem RepSt.weak {P : Program} {x : Ent} {s s' : St} {a : Act} {w : World} (h : RepSt P x s a w) (hw : Wk s s') (hb : x.E0.n ≤ s'.n) : RepSt P x s' a w := by
  obtain ⟨h1, h2, E, h3, h4⟩ := h
  let τ : Nat → Option Tip := fun k => if (s'.tip k).isSome then E.τ k else none
  have hτ : ∀ k T, τ k = some T → E.τ k = some T ∧ (s'.tip k).isSome = true := fun k T hk => by
    simp only [τ] at hk
    split at hk
    · rename_i hs; exact ⟨hk, hs⟩
    · cases hk
  let E' : Env := { n := s'.n, β := E.β, τ := τ, hn := E.hn, γ := E.γ, gs := E.gs }
  have hown : ∀ b o, Own s' E' b o → Own s E b o := by
    rintro b o (⟨id, cs, hi, hb⟩ | ⟨k, T, hk, hs⟩ | ⟨k, q, hk, hg⟩)
    · obtain ⟨cs0, g1, _⟩ := hw.h id cs hi; exact .inl ⟨id, cs0, g1, hb⟩
    · exact .inr (.inl ⟨k, T, (hτ k T hk).1, hs⟩)
    · exact .inr (.inr ⟨k, q, hw.H ▸ hk, hg⟩)
  have hWn : ∀ b o, Wn x s' E' b o → Wn x s E b o := fun b o h => h.imp id (hown b o)
  have cv : ∀ c c' v, RepC w (Wn x s E) E c v → Cw c c' → c'.lt s'.n → RepC w (Wn x s' E') E' c' v := fun c c' v hc hcw hl => by
    rcases hcw with rfl | ⟨d, hd, rfl⟩
    · exact (hc.antiW hWn).weak (fun k T hk => (hτ k T hk).1) hl
    · exact RepD.keep (hc.low hd) (Keeps.anti hWn)
  refine ⟨h1, by rw [hw.m]; exact h2, E', ?_, fun i => ?_⟩
  · exact {
      fr := h3.fr
      n := rfl
      le := ⟨hb, h3.le.β, fun k hk T' hT' => h3.le.τ k hk T' (hτ k T' hT').1, h3.le.hn, h3.le.γ⟩
      box := fun id cs hi => by
        obtain ⟨cs0, g1, g4, g2, g3⟩ := hw.h id cs hi
        obtain ⟨_, vs, t, b1, b2, b3⟩ := h3.box id cs0 g1
        refine ⟨g2, vs, t, b1, by rw [b2, g4.len], fun k c hc => ?_⟩
        obtain ⟨c0, hc0, hcw⟩ := g4.get k c hc
        exact cv c0 c _ (b3 k c0 hc0) hcw (g3 c (List.mem_of_getElem? hc))
      inj := fun i j p q hi hj hb => by
        obtain ⟨p0, g1, _⟩ := hw.h i p hi
        obtain ⟨q0, g2, _⟩ := hw.h j q hj
        exact h3.inj i j p0 q0 g1 g2 hb
      tip := fun k => by
        show s'.tip k = (τ k).map _
        cases hk : s'.tip k with
        | none => simp [τ, hk]
        | some y =>
          have := (hw.tip k y hk).1
          simp only [τ, hk, Option.isSome_some, if_true]
          rw [← h3.tip k, this]
      tlt := fun k T hk => by
        obtain ⟨g1, g2⟩ := hτ k T hk
        obtain ⟨y, hy⟩ := Option.isSome_iff_exists.1 g2
        exact ⟨(hw.tip k y hy).2, (h3.tlt k T g1).2⟩
      trow := fun k T hk => h3.trow k T (hτ k T hk).1
      tbox := fun k T id cs b o hk hi => by
        obtain ⟨cs0, g1, _⟩ := hw.h id cs hi
        exact h3.tbox k T id cs0 b o (hτ k T hk).1 g1
      ttip := fun k k' T T' b o o' hk hk' => h3.ttip k k' T T' b o o' (hτ k T hk).1 (hτ k' T' hk').1
      fresh := fun b o ho => h3.fresh b o (hown b o ho)
      ob := fun id o hi => by
        obtain ⟨g1, g2⟩ := hw.o id o hi
        obtain ⟨p1, p2, j, p3, p4⟩ := h3.ob id o g1
        exact ⟨g2, p2, j, p3, p4.keep (Keeps.anti hWn)⟩
      oinj := fun i j a b hi hj hb => h3.oinj i j a b (hw.o i a hi).1 (hw.o j b hj).1 hb
      hp := h3.hp.keep hw.H rfl rfl rfl (fun _ _ _ => rfl) (Keeps.anti hWn) (fun c v hc h => RepC.henv (E := E) (E' := E') rfl rfl rfl hc h)
        (fun k o id cs hk hi => by obtain ⟨cs0, g1, _⟩ := hw.h id cs hi; exact h3.hp.box k o id cs0 hk g1)
        (fun k o j T b p hk hj hs => h3.hp.tip k o j T b p hk (hτ j T hj).1 hs) }
  · rcases hw.t i with ⟨e, hl⟩ | e
    · have := h4 i
      generalize s.t i = r at *
      generalize s'.t i = r' at *
      generalize a.tmps.getD i undef = v at *
      cases e with
      | one hc =>
        cases this with
        | one _ v h => exact .one _ v (cv _ _ v h hc hl)
      | agg hcs =>
        cases this with
        | agg _ vs hlen h =>
          refine .agg _ vs (by rw [hlen, hcs.len]) fun k c hc => ?_
          obtain ⟨c0, hc0, hcw⟩ := hcs.get k c hc
          exact cv c0 c _ (h k c0 hc0) hcw (hl c (List.mem_of_getElem? hc))
    · rw [e]; exact .any _

/-- A full slice becomes one that may be appended to. -/
theorem RepE.tok {P : Program} {x : Ent} {s : St} {w : World} {E : Env} (h3 : RepE P x s w E) (e : TypeId) (base : Option Addr) (len : Nat) :
    RepE P x (s.tok e len) w { E with n := E.n + 1, τ := upd E.τ E.n (some { base := base, len := len, cap := len, elem := e, sz := 0 }) } ∧
    (∀ b o, Wn x (s.tok e len) { E with n := E.n + 1, τ := upd E.τ E.n (some { base := base, len := len, cap := len, elem := e, sz := 0 }) } b o → Wn x s E b o) ∧
    E.le { E with n := E.n + 1, τ := upd E.τ E.n (some { base := base, len := len, cap := len, elem := e, sz := 0 }) } := by
  generalize hTd : ({ base := base, len := len, cap := len, elem := e, sz := 0 } : Tip) = T
  have hTl : T.len = len := by rw [← hTd]
  have hTc : T.cap = len := by rw [← hTd]
  have hTe : T.elem = e := by rw [← hTd]
  have hTs : T.sz = 0 := by rw [← hTd]
  have hnos : ∀ b o, ¬ T.spare b o := by
    rintro b o ⟨off, _, h1, h2⟩; rw [hTs] at h1 h2; omega
  have hτ : ∀ k T', upd E.τ E.n (some T) k = some T' → (k = E.n ∧ T' = T) ∨ (k ≠ E.n ∧ E.τ k = some T') := fun k T' hk => by
    by_cases he : k = E.n
    · subst he; simp at hk; exact .inl ⟨rfl, hk.symm⟩
    · rw [upd_ne _ _ _ _ he] at hk; exact .inr ⟨he, hk⟩
  have hown : ∀ b o, Own (s.tok e len) { E with n := E.n + 1, τ := upd E.τ E.n (some T) } b o → Own s E b o := by
    rintro b o (⟨id, cs, hi, hb⟩ | ⟨k, T', hk, hs⟩ | hh)
    · exact .inl ⟨id, cs, hi, hb⟩
    · rcases hτ k T' hk with ⟨rfl, rfl⟩ | ⟨_, hk⟩
      · exact (hnos b o hs).elim
      · exact .inr (.inl ⟨k, T', hk, hs⟩)
    · exact .inr (.inr hh)
  have hle : E.le { E with n := E.n + 1, τ := upd E.τ E.n (some T) } := ⟨Nat.le_succ _, fun _ _ => rfl, fun k hk T' hT' => by
    rcases hτ k T' hT' with ⟨rfl, _⟩ | ⟨_, h⟩
    · exact absurd hk (Nat.lt_irrefl _)
    · exact ⟨T', h, .inl rfl⟩, Nat.le_refl _, fun _ _ => ⟨rfl, rfl⟩⟩
  have kp : Keeps w (Wn x s E) w (Wn x (s.tok e len) { E with n := E.n + 1, τ := upd E.τ E.n (some T) }) := Keeps.anti fun b o h => h.imp id (hown b o)
  refine ⟨?_, fun b o h => h.imp id (hown b o), hle⟩
  exact {
    fr := h3.fr
    n := by show E.n + 1 = s.n + 1; rw [h3.n]
    le := h3.le.trans hle
    box := fun id cs hi => ⟨Nat.lt_succ_of_lt (h3.box id cs hi).1, (h3.box id cs hi).2.keep rfl kp hle⟩
    inj := h3.inj
    tip := fun k => by
      show upd s.tip s.n (some (e, len)) k = (upd E.τ E.n (some T) k).map _
      rw [← h3.n]
      by_cases he : k = E.n
      · subst he; simp [hTe, hTl]
      · rw [upd_ne _ _ _ _ he, upd_ne _ _ _ _ he]; exact h3.tip k
    tlt := fun k T' hk => by
      rcases hτ k T' hk with ⟨rfl, rfl⟩ | ⟨_, hk⟩
      · exact ⟨by show E.n < s.n + 1; rw [h3.n]; omega, by omega⟩
      · exact ⟨Nat.lt_succ_of_lt (h3.tlt k T' hk).1, (h3.tlt k T' hk).2⟩
    trow := fun k T' hk hl => by
      rcases hτ k T' hk with ⟨rfl, rfl⟩ | ⟨_, hk⟩
      · omega
      · exact h3.trow k T' hk hl
    tbox := fun k T' id cs b o hk hi hs => by
      rcases hτ k T' hk with ⟨rfl, rfl⟩ | ⟨_, hk⟩
      · exact (hnos b o hs).elim
      · exact h3.tbox k T' id cs b o hk hi hs
    ttip := fun k k' T1 T2 b o o' hk hk' hs hs' => by
      rcases hτ k T1 hk with ⟨rfl, rfl⟩ | ⟨_, hk⟩
      · exact (hnos b o hs).elim
      · rcases hτ k' T2 hk' with ⟨rfl, rfl⟩ | ⟨_, hk'⟩
        · exact (hnos b o' hs').elim
        · exact h3.ttip k k' T1 T2 b o o' hk hk' hs hs'
    fresh := fun b o ho => h3.fresh b o (hown b o ho)
    ob := fun id o hi => by
      obtain ⟨p1, p2, j, p3, p4⟩ := h3.ob id o hi
      exact ⟨Nat.lt_succ_of_lt p1, p2, j, p3, p4.keep kp⟩
    oinj := h3.oinj
    hp := h3.hp.keep rfl rfl rfl rfl (fun _ _ _ => rfl) kp (fun c v hc h => RepC.henv (E := E) (E' := { E with n := E.n + 1, τ := upd E.τ E.n (some T) }) rfl rfl rfl hc h)
      (fun k o id cs hk hi => h3.hp.box k o id cs hk hi)
      (fun k o j T b p hk hj hs => by
        rcases hτ j T hj with ⟨rfl, rfl⟩ | ⟨_, hj⟩
        · exact (hnos b p hs).elim
        · exact h3.hp.tip k o j T b p hk hj hs) }

/-- What a cell of a box is said to hold, said otherwise. -/
theorem RepE.rebox {P : Program} {x : Ent} {s : St} {w : World} {E : Env} (h3 : RepE P x s w E) {id : Nat} {cs cs' : List C} (hi : s.h id = some cs) (hl : cs'.length = cs.length)
    (hc : ∀ (k : Nat) (c c' : C), cs[k]? = some c → cs'[k]? = some c' → ∀ v, RepC w (Wn x s E) E c v → RepC w (Wn x s E) E c' v) :
    RepE P x { s with h := upd s.h id (some cs') } w E ∧ Wn x { s with h := upd s.h id (some cs') } E = Wn x s E := by
  have hh : ∀ j p, upd s.h id (some cs') j = some p → ∃ p0, s.h j = some p0 := fun j p hj => by
    by_cases he : j = id
    · subst he; exact ⟨cs, hi⟩
    · rw [upd_ne _ _ _ _ he] at hj; exact ⟨p, hj⟩
  have hW : Wn x { s with h := upd s.h id (some cs') } E = Wn x s E := by
    funext b o
    apply propext
    constructor
    · rintro (h | ⟨j, p, hj, hb⟩ | h)
      · exact .inl h
      · obtain ⟨p0, hp0⟩ := hh j p hj; exact .inr (.inl ⟨j, p0, hp0, hb⟩)
      · exact .inr (.inr h)
    · rintro (h | ⟨j, p, hj, hb⟩ | h)
      · exact .inl h
      · by_cases he : j = id
        · subst he; exact .inr (.inl ⟨j, cs', by simp, hb⟩)
        · exact .inr (.inl ⟨j, p, by show upd s.h id (some cs') j = _; rw [upd_ne _ _ _ _ he]; exact hj, hb⟩)
      · exact .inr (.inr h)
  refine ⟨?_, hW⟩
  exact {
    fr := h3.fr
    n := h3.n
    le := h3.le
    box := fun j p hj => by
      rw [hW]
      by_cases he : j = id
      · subst he
        have hj : upd s.h j (some cs') j = some p := hj
        simp at hj
        subst hj
        obtain ⟨g1, vs, t, b1, b2, b3⟩ := h3.box j cs hi
        refine ⟨g1, vs, t, b1, by rw [b2, hl], fun k c' hk => ?_⟩
        have hlt : k < cs.length := by rw [← hl]; exact (List.getElem?_eq_some_iff.1 hk).1
        exact hc k cs[k] c' (List.getElem?_eq_getElem hlt) hk _ (b3 k _ (List.getElem?_eq_getElem hlt))
      · have hj : upd s.h id (some cs') j = some p := hj
        rw [upd_ne _ _ _ _ he] at hj
        exact h3.box j p hj
    inj := fun i j p q hi' hj hb => by
      obtain ⟨_, hp⟩ := hh i p hi'
      obtain ⟨_, hq⟩ := hh j q hj
      exact h3.inj i j _ _ hp hq hb
    tip := h3.tip
    tlt := h3.tlt
    trow := h3.trow
    tbox := fun k T j p b o hk hj hs => by
      obtain ⟨_, hp⟩ := hh j p hj
      exact h3.tbox k T j _ b o hk hp hs
    ttip := h3.ttip
    fresh := fun b o ho => h3.fresh b o (by
      rcases ho with ⟨j, p, hj, hb⟩ | h
      · obtain ⟨p0, hp0⟩ := hh j p hj; exact .inl ⟨j, p0, hp0, hb⟩
      · exact .inr h)
    ob := fun i o hi' => by rw [hW]; exact h3.ob i o hi'
    oinj := h3.oinj
    hp := h3.hp.keep rfl rfl rfl rfl (fun _ _ _ => rfl) (by rw [hW]; exact Keeps.refl _ _) (fun c v hc h => h)
      (fun k o i p hk hj => by obtain ⟨_, hp⟩ := hh i p hj; exact h3.hp.box k o i _ hk hp)
      (fun k o j T b p hk hj hs => h3.hp.tip k o j T b p hk hj hs) }

/-- Where a full slice lies. -/
inductive Loc where
  | slot (i : Nat)
  | cell (id off : Nat)

/-- A full slice at a place becomes one that may be appended to. -/
def St.tokAt (s : St) (e : TypeId) : Loc → Option St
  | .slot i => (match s.t i with
    | .one (.full es) => some ((s.tok e es.length).set i (.one (.app es s.n)))
    | _ => none)
  | .cell id off => (match s.h id with
    | some cs => (match cs[off]? with
      | some (.full es) => some { s.tok e es.length with h := upd s.h id (some (rpl cs off [.app es s.n])) }
      | _ => none)
    | none => none)

theorem RepSt.tokAt {P : Program} {x : Ent} {s s' : St} {a : Act} {w : World} (h : RepSt P x s a w) {e : TypeId} {l : Loc} (hs : s.tokAt e l = some s') : RepSt P x s' a w ∧ s'.m = s.m := by
  obtain ⟨h1, h2, E, h3, h4⟩ := h
  cases l with
  | slot i =>
    simp only [St.tokAt] at hs
    split at hs
    · rename_i es ht
      simp only [Option.some.injEq] at hs
      subst hs
      have hv := h4 i
      rw [ht] at hv
      obtain ⟨hv1, base, hv2⟩ := one_inv hv
      obtain ⟨g1, g2, g3⟩ := h3.tok e base es.length
      refine ⟨⟨h1, h2, _, g1.set i _, fun j => ?_⟩, rfl⟩
      show RepA w _ _ (upd s.t i (.one (.app es s.n)) j) _
      by_cases hj : j = i
      · subst hj
        simp only [upd_same]
        refine .one _ _ ⟨RepD.keep hv1 (Keeps.anti g2), by show s.n < E.n + 1; rw [h3.n]; omega, fun T hT => ?_⟩
        have hT : upd E.τ E.n _ s.n = some T := hT
        rw [← h3.n] at hT
        simp at hT
        subst hT
        exact ⟨Nat.le_refl _, fun _ => hv2⟩
      · rw [upd_ne _ _ _ _ hj]
        exact (h4 j).keep (Keeps.anti g2) g3
    · cases hs
  | cell id off =>
    simp only [St.tokAt] at hs
    split at hs
    · rename_i cs hi
      split at hs
      · rename_i es hc
        simp only [Option.some.injEq] at hs
        subst hs
        have hlt : off < cs.length := (List.getElem?_eq_some_iff.1 hc).1
        obtain ⟨_, vs, t, b1, b2, b3⟩ := h3.box id cs hi
        obtain ⟨hv1, base, hv2⟩ := b3 off _ hc
        obtain ⟨g1, g2, g3⟩ := h3.tok e base es.length
        -- the cell's value is this one: told by what it is in the box
        have hb0 : BoxAt w (Wn x s E) E (E.β id) cs := ⟨vs, t, b1, b2, b3⟩
        refine ⟨⟨h1, h2, { E with n := E.n + 1, τ := upd E.τ E.n (some { base := base, len := es.length, cap := es.length, elem := e, sz := 0 }) }, ?_, fun j => (h4 j).keep ?_ g3⟩, rfl⟩
        · have hW : Wn x { s.tok e es.length with h := upd s.h id (some (rpl cs off [.app es s.n])) } { E with n := E.n + 1, τ := upd E.τ E.n (some { base := base, len := es.length, cap := es.length, elem := e, sz := 0 }) } =
              Wn x (s.tok e es.length) { E with n := E.n + 1, τ := upd E.τ E.n (some { base := base, len := es.length, cap := es.length, elem := e, sz := 0 }) } := by
            funext b o
            apply propext
            constructor
            · rintro (h | ⟨j, p, hj, hb⟩ | h)
              · exact .inl h
              · have hj : upd s.h id (some (rpl cs off [.app es s.n])) j = some p := hj
                by_cases he : j = id
                · subst he; exact .inr (.inl ⟨j, cs, hi, hb⟩)
                · rw [upd_ne _ _ _ _ he] at hj; exact .inr (.inl ⟨j, p, hj, hb⟩)
              · exact .inr (.inr h)
            · rintro (h | ⟨j, p, hj, hb⟩ | h)
              · exact .inl h
              · by_cases he : j = id
                · subst he; exact .inr (.inl ⟨j, rpl cs off [.app es s.n], by show upd s.h j _ j = _; simp, hb⟩)
                · exact .inr (.inl ⟨j, p, by show upd s.h id _ j = _; rw [upd_ne _ _ _ _ he]; exact hj, hb⟩)
              · exact .inr (.inr h)
          have hh : ∀ j p, upd s.h id (some (rpl cs off [.app es s.n])) j = some p → ∃ p0, s.h j = some p0 := fun j p hj => by
            by_cases he : j = id
            · subst he; exact ⟨cs, hi⟩
            · rw [upd_ne _ _ _ _ he] at hj; exact ⟨p, hj⟩
          exact {
            fr := g1.fr
            n := g1.n
            le := g1.le
            box := fun j p hj => by
              rw [hW]
              by_cases he : j = id
              · subst he
                have hj : upd s.h j (some (rpl cs off [.app es s.n])) j = some p := hj
                simp at hj
                subst hj
                obtain ⟨q1, vs', t', q2, q3, q4⟩ := g1.box j cs hi
                have hvs : vs' = vs := by
                  have : (w.heap[E.β j]? : Option Obj) = some (.cells vs' t' (0, 0)) := q2
                  rw [b1] at this
                  simp only [Option.some.injEq, Obj.cells.injEq] at this
                  exact this.1.symm
                refine ⟨q1, vs', t', q2, by rw [q3, length_rpl _ _ _ (by simp; omega)], fun k c' hk => ?_⟩
                rw [getElem?_rpl _ _ _ (by simp; omega)] at hk
                split at hk
                · exact q4 k c' hk
                · split at hk
                  · rename_i h5 h6
                    simp only [List.length_singleton] at h6
                    have hko : k = off := by omega
                    subst hko
                    simp at hk
                    subst hk
                    rw [hvs]
                    refine ⟨RepD.keep hv1 (Keeps.anti g2), by show s.n < E.n + 1; rw [h3.n]; omega, fun T hT => ?_⟩
                    have hT : upd E.τ E.n _ s.n = some T := hT
                    rw [← h3.n] at hT
                    simp at hT
                    subst hT
                    exact ⟨Nat.le_refl _, fun _ => hv2⟩
                  · exact q4 k c' hk
              · have hj : upd s.h id (some (rpl cs off [.app es s.n])) j = some p := hj
                rw [upd_ne _ _ _ _ he] at hj
                exact g1.box j p hj
            inj := fun i j p q hi' hj hb => by
              obtain ⟨_, hp⟩ := hh i p hi'
              obtain ⟨_, hq⟩ := hh j q hj
              exact g1.inj i j _ _ hp hq hb
            tip := g1.tip
            tlt := g1.tlt
            trow := g1.trow
            tbox := fun k T j p b o hk hj hs => by
              obtain ⟨_, hp⟩ := hh j p hj
              exact g1.tbox k T j _ b o hk hp hs
            ttip := g1.ttip
            fresh := fun b o ho => g1.fresh b o (by
              rcases ho with ⟨j, p, hj, hb⟩ | h
              · obtain ⟨p0, hp0⟩ := hh j p hj; exact .inl ⟨j, p0, hp0, hb⟩
              · exact .inr h)
            ob := fun i o hi' => by rw [hW]; exact g1.ob i o hi'
            oinj := g1.oinj
            hp := g1.hp.keep rfl rfl rfl rfl (fun _ _ _ => rfl) (by rw [hW]; exact Keeps.refl _ _) (fun c v hc h => h)
              (fun k o i p hk hj => by obtain ⟨_, hp⟩ := hh i p hj; exact g1.hp.box k o i _ hk hp)
              (fun k o j T b p hk hj hs => g1.hp.tip k o j T b p hk hj hs) }
        · refine Keeps.anti fun b o ho => g2 b o ?_
          rcases ho with h | ⟨j, p, hj, hb⟩ | h
          · exact .inl h
          · have hj : upd s.h id (some (rpl cs off [.app es s.n])) j = some p := hj
            by_cases he : j = id
            · subst he; exact .inr (.inl ⟨j, cs, hi, hb⟩)
            · rw [upd_ne _ _ _ _ he] at hj; exact .inr (.inl ⟨j, p, hj, hb⟩)
          · exact .inr (.inr h)
      · cases hs
    · cases hs

end Go.Av
