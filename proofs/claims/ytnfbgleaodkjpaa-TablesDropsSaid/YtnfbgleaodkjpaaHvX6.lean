/-
  What code gives when run is what it does; functions by their contracts. Over any program. No toy.
-/
import Derived.Test.YtnfbgleaodkjpaaHvX5
set_option linter.all false
namespace Go.Av
open Go.RowKit

section
variable {R : Type} {P : Program} {res : R} {X : St → Op → TypeId → (A → St → Option R) → Option R} {kd : Op → OKd}
  (hX : ∀ (s : St) (o : Op) (ty : TypeId) (Ks : A → St → Option R) (Kp : A → St → Prop), X s o ty Ks = some res → (∀ r s', Ks r s' = some res → Kp r s') → adop P kd s o Kp)
include hX

theorem xops_sound {ops : List Oper} {K : St → Option R} {Kp : St → Prop} (hK : ∀ s, K s = some res → Kp s) : ∀ (l : List Oper) (s : St), xops X ops l K s = some res → aops P ops l Kp s
  | [], s, h => hK s h
  | o :: rest, s, h => by
    unfold xops at h
    unfold aops
    split at h
    · rename_i hg
      rw [hg]
      simp only []
      split at h
      · rename_i d hd
        rw [hd]
        simp only [xif_some, decide_eq_true_eq] at h
        exact ⟨h.1, aop_of_adop (hX _ _ _ _ _ h.2 fun r s' hr => xops_sound hK rest _ hr)⟩
      · rename_i hd
        rw [hd]
        exact aop_of_adop (hX _ _ _ _ _ h fun r s' hr => xops_sound hK rest _ hr)
    · rename_i j want hg
      rw [hg]
      simp only []
      split at h
      · rename_i d g hd hgd
        rw [hd, hgd]
        simp only [xif_some, decide_eq_true_eq] at h ⊢
        refine ⟨h.1, ?_⟩
        have h := h.2
        split at h
        · rename_i b hb
          rw [hb]
          simp only []
          split at h
          · rcases xite_some h with ⟨rfl, h7⟩ | ⟨rfl, h7⟩
            · exact ⟨fun _ => aop_of_adop (hX _ _ _ _ _ h7 fun r s' hr => xops_sound hK rest _ hr), fun e => (by simp at e)⟩
            · exact ⟨fun e => (by simp at e), fun _ => xops_sound hK rest _ h7⟩
          · rcases xite_some h with ⟨rfl, h7⟩ | ⟨rfl, h7⟩
            · exact ⟨fun e => (by simp at e), fun _ => xops_sound hK rest _ h7⟩
            · exact ⟨fun _ => aop_of_adop (hX _ _ _ _ _ h7 fun r s' hr => xops_sound hK rest _ hr), fun e => (by simp at e)⟩
        · rename_i hb
          rw [hb]
          exact xops_sound hK rest _ h
        · cases h
      · cases h

theorem xord_sound {all : List Oper} {K : St → Option R} {Kp : St → Prop} (hK : ∀ s, K s = some res → Kp s) : ∀ (l : List Nat) (s : St), xord X all l K s = some res → aord P kd all l Kp s
  | [], s, h => hK s h
  | i :: rest, s, h => by
    unfold xord at h
    unfold aord
    split at h
    · cases h
    · rename_i o ho
      rw [ho]
      simp only []
      split at h
      · rename_i hg
        rw [hg]
        simp only []
        split at h
        · rename_i d hd
          rw [hd]
          exact hX _ _ _ _ _ h fun r s' hr => xord_sound hK rest _ hr
        · rename_i hd
          rw [hd]
          exact hX _ _ _ _ _ h fun r s' hr => xord_sound hK rest _ hr
      · rename_i j want hg
        rw [hg]
        simp only []
        split at h
        · rename_i d g hd hgd
          rw [hd, hgd]
          simp only []
          split at h
          · rename_i b hb
            rw [hb]
            simp only []
            split at h
            · rcases xite_some h with ⟨rfl, h7⟩ | ⟨rfl, h7⟩
              · exact ⟨fun _ => hX _ _ _ _ _ h7 fun r s' hr => xord_sound hK rest _ hr, fun e => (by simp at e)⟩
              · exact ⟨fun e => (by simp at e), fun _ => xord_sound hK rest _ h7⟩
            · rcases xite_some h with ⟨rfl, h7⟩ | ⟨rfl, h7⟩
              · exact ⟨fun e => (by simp at e), fun _ => xord_sound hK rest _ h7⟩
              · exact ⟨fun _ => hX _ _ _ _ _ h7 fun r s' hr => xord_sound hK rest _ hr, fun e => (by simp at e)⟩
          · rename_i hb
            rw [hb]
            exact xord_sound hK rest _ h
          · cases h
        · cases h

/-- What code does, where names below b may have come in. -/
def XWp (P : Program) (b : Nat) (c : Code) (Q : Exit → St → Prop) (s : St) : Prop :=
  ∀ (x : Ent) (a : Act) (w : World), x.ok → x.E0.n ≤ b → RepSt P x s a w → c.wp P (fun e a' w' => ∃ s', RepSt P x s' a' w' ∧ Q e s' ∧ s'.m = s.m) a w

omit hX in
theorem regOrd_some {ops : Array Oper} {l : List Nat} (h : regOrd kd ops = some l) : ∃ order tail, l = order ++ tail ∧ (ordB kd ops order tail (Array.replicate ops.size false) && (order.length + tail.length == ops.size)) = true := by
  unfold regOrd at h
  split at h
  · simp only [] at h
    split at h
    · rename_i hb
      simp only [Option.some.injEq] at h
      exact ⟨_, _, h.symm, hb⟩
    · cases h

variable (hm : P.follows .mixedOrders = true)
include hm

theorem xcode_sound {fuel b : Nat} : ∀ (c : Code) (ls : List LSpec) (K : Exit → St → Option R) (Q : Exit → St → Prop), (∀ e s, K e s = some res → Q e s) → ∀ s, xcode X kd fuel b c ls K s = some res → XWp P b c Q s := by
  intro c
  induction c with
  | skip => exact fun ls K Q hK s h x a w _ _ hr => wp_skip ⟨s, hr, hK _ _ h, rfl⟩
  | region id ops draw =>
    intro ls K Q hK s h x a w hx _ hr
    unfold xcode at h
    cases draw with
    | false => exact wp_region_list (aops_sound hx _ _ _ _ hr (xops_sound hX (fun s h => hK _ s h) _ _ h) fun s' a' w' h1 h2 h3 => ⟨s', h1, h2, h3⟩)
    | true =>
      simp only [] at h
      split at h
      · rename_i l hl
        simp only [xif_some] at h
        obtain ⟨order, tail, rfl, hB⟩ := regOrd_some hl
        have := ADraw.of (K := fun s' => Q .normal s') order tail hm hB h.1 (xord_sound hX (fun s h => hK _ s h) _ _ h.2) (id := id)
        exact wp_mono (this.out x a w hx hr) fun e _ _ ⟨s', h1, ⟨he, h2⟩, h3⟩ => ⟨s', h1, he ▸ h2, h3⟩
      · cases h
  | seq c d ihc ihd =>
    intro ls K Q hK s h x a w hx hb hr
    unfold xcode at h
    refine wp_seq (wp_mono (ihc ls _ (fun e s' => match e with | .normal => xcode X kd fuel b d (ls.drop (loops c)) K s' = some res | e => K e s' = some res) (fun e s' he => ?_) s h x a w hx hb hr) fun e a' w' ⟨s', h1, h2, h3⟩ => ?_)
    · cases e <;> exact he
    · cases e with
      | normal => exact wp_mono (ihd _ K Q hK s' h2 x a' w' hx hb h1) fun e2 a2 w2 ⟨s2, g1, g2, g3⟩ => ⟨s2, g1, g2, g3.trans h3⟩
      | exit id => exact ⟨s', h1, hK _ _ h2, h3⟩
      | goto l => exact ⟨s', h1, hK _ _ h2, h3⟩
      | ret => exact ⟨s', h1, hK _ _ h2, h3⟩
      | panic ch => exact ⟨s', h1, hK _ _ h2, h3⟩
      | outgrown => exact ⟨s', h1, hK _ _ h2, h3⟩
  | cond c th el iht ihe =>
    intro ls K Q hK s h x a w hx hb hr
    unfold xcode at h
    simp only [Option.bind_eq_some_iff] at h
    obtain ⟨t, ht, h⟩ := h
    refine wp_cond_split (t := t) (eval_v hr (xB_some ht)) (fun ht => ?_) (fun ht => ?_)
    · rcases xite_some h with ⟨h0, h⟩ | ⟨h0, h⟩
      · exact iht _ K Q hK s h x a w hx hb hr
      · rw [h0] at ht; cases ht
    · rcases xite_some h with ⟨h0, h⟩ | ⟨h0, h⟩
      · rw [h0] at ht; cases ht
      · exact ihe _ K Q hK s h x a w hx hb hr
  | block id c ih =>
    intro ls K Q hK s h x a w hx hb hr
    unfold xcode at h
    refine wp_block (wp_mono (ih ls _ (fun e s' => qex id K e s' = some res) (fun e s' he => he) s h x a w hx hb hr) fun e a' w' ⟨s', h1, h2, h3⟩ => ?_)
    cases e with
    | exit id' =>
      show (if id' = id then _ else _)
      simp only [qex] at h2
      split
      · rename_i he; rw [if_pos he] at h2; exact ⟨s', h1, hK _ _ h2, h3⟩
      · rename_i he; rw [if_neg he] at h2; exact ⟨s', h1, hK _ _ h2, h3⟩
    | normal => exact ⟨s', h1, hK _ _ h2, h3⟩
    | goto l => exact ⟨s', h1, hK _ _ h2, h3⟩
    | ret => exact ⟨s', h1, hK _ _ h2, h3⟩
    | panic ch => exact ⟨s', h1, hK _ _ h2, h3⟩
    | outgrown => exact ⟨s', h1, hK _ _ h2, h3⟩
  | loop c ih =>
    intro ls K Q hK s h x a w hx hb hr
    unfold xcode at h
    cases ls with
    | nil => cases h
    | cons l ls =>
      simp only [xif_some, Option.bind_eq_some_iff] at h
      obtain ⟨hok, s1, hs1, h⟩ := h
      obtain ⟨y, hy, h⟩ := LSpec.extK_some h
      obtain ⟨hr1, hm1⟩ := RepSt.toksAt hr hs1
      have key : ∀ (n : Nat) (y : l.X) (s1 : St) (a : Act) (w : World), RepSt P x s1 a w → l.ext s1 = some y → s1.m = s.m →
          iter (fun x rec => xcode X kd fuel b c ls (qround l rec K) (l.inj x)) n y = some res →
          LoopAt P c (fun e a' w' => ∃ s', RepSt P x s' a' w' ∧ Q e s' ∧ s'.m = s.m) a w := by
        intro n
        induction n with
        | zero => intro y s1 a w _ _ _ h; cases h
        | succ n ihn =>
          intro y s1 a w hr1 hy hm1 h
          obtain ⟨hwk, hbn⟩ := LSpec.weak hok hy
          have hr2 := hr1.weak hwk (Nat.le_trans hb hbn)
          have hm2 : (l.inj y).m = s.m := by rw [hwk.m]; exact hm1
          refine loopAt_round (wp_mono (ih ls (qround l (iter (fun x rec => xcode X kd fuel b c ls (qround l rec K) (l.inj x)) n) K)
            (fun e s' => qround l (iter (fun x rec => xcode X kd fuel b c ls (qround l rec K) (l.inj x)) n) K e s' = some res) (fun e s' he => he) (l.inj y) h x a w hx hb hr2) fun e a' w' ⟨s', h1, h2, h3⟩ => ?_)
          cases e with
          | normal =>
            simp only [qround] at h2
            obtain ⟨y', hy', h2⟩ := LSpec.extK_some h2
            exact ihn y' s' a' w' h1 hy' (h3.trans hm2) h2
          | exit id => exact ⟨s', h1, hK _ _ h2, h3.trans hm2⟩
          | goto l => exact ⟨s', h1, hK _ _ h2, h3.trans hm2⟩
          | ret => exact ⟨s', h1, hK _ _ h2, h3.trans hm2⟩
          | panic ch => exact ⟨s', h1, hK _ _ h2, h3.trans hm2⟩
          | outgrown => exact ⟨s', h1, hK _ _ h2, h3.trans hm2⟩
      exact wp_of_loopAt (key fuel y s1 a w hr1 hy hm1 h)
  | exit id => exact fun ls K Q hK s h x a w _ _ hr => wp_exit ⟨s, hr, hK _ _ h, rfl⟩
  | ret => exact fun ls K Q hK s h x a w _ _ hr => wp_ret ⟨s, hr, hK _ _ h, rfl⟩
  | _ => intro ls K Q hK s h; cases h

end

/-- What is left of a cell, a value, when a call ends. -/
def xfinC (h : Nat → Option (List C)) : C → Option D
  | .d x => some x
  | .full es => some (.sl es)
  | .app es _ => some (.sl es)
  | .msl id off len cap sz => (match h id with
    | some cs => xif (decide (len ≤ cap) && decide (off + len * sz ≤ cs.length)) ((xlows ((cs.drop off).take (len * sz))).bind fun ds => some (.sl (chunks sz len ds)))
    | none => none)
  | _ => none
def xfinCs (h : Nat → Option (List C)) : List C → Option (List D)
  | [] => some []
  | c :: cs => (xfinC h c).bind fun d => (xfinCs h cs).bind fun ds => some (d :: ds)
def xfinA (h : Nat → Option (List C)) : A → Option A
  | .one c => (xfinC h c).bind fun d => some (.one (.d d))
  | .agg cs => (xfinCs h cs).bind fun ds => some (.agg (ds.map C.d))
  | _ => none
def xfinAs (h : Nat → Option (List C)) : List A → Option (List A)
  | [] => some []
  | a :: as => (xfinA h a).bind fun b => (xfinAs h as).bind fun bs => some (b :: bs)
def xfin (h : Nat → Option (List C)) : A → Option A
  | .tup as => (xfinAs h as).bind fun bs => some (.tup bs)
  | a => xfinA h a

theorem xfinC_rep {P : Program} {x : Ent} (hx : x.ok) {s : St} {w : World} {E : Env} (h3 : RepE P x s w E) {c : C} {v : Value} {d : D} (h : RepC w (Wn x s E) E c v) (hf : xfinC s.h c = some d) : RepD w x.Wf d v := by
  refine lowH_rep hx h3 1 c v d h ?_
  cases c <;> simp only [xfinC, reduceCtorEq] at hf
  · simpa [lowH, low] using hf
  · simpa [lowH, low] using hf
  · simpa [lowH, low] using hf
  · split at hf
    · rename_i cs hcs
      simp only [xif_some, Bool.and_eq_true, decide_eq_true_eq, Option.bind_eq_some_iff, Option.some.injEq] at hf
      obtain ⟨h1, ds, h2, rfl⟩ := hf
      rw [xlows_eq] at h2
      simp only [lowH, hcs]
      rw [if_pos h1]
      have h2' : List.mapM (fun x => low x) (List.take (_ * _) (List.drop _ cs)) = some ds := h2
      rw [h2']; rfl
    · cases hf
theorem xfinCs_some {h : Nat → Option (List C)} : ∀ {cs : List C} {ds : List D}, xfinCs h cs = some ds → ds.length = cs.length ∧ ∀ (k : Nat) (d : D), ds[k]? = some d → ∃ c, cs[k]? = some c ∧ xfinC h c = some d
  | [], ds, hf => by simp only [xfinCs, Option.some.injEq] at hf; subst hf; simp
  | c :: cs, ds, hf => by
    simp only [xfinCs, Option.bind_eq_some_iff, Option.some.injEq] at hf
    obtain ⟨d, h1, ds', h2, rfl⟩ := hf
    obtain ⟨i1, i2⟩ := xfinCs_some h2
    refine ⟨by simp [i1], fun k y hk => ?_⟩
    cases k with
    | zero => simp at hk; subst hk; exact ⟨c, rfl, h1⟩
    | succ k => simpa using i2 k y (by simpa using hk)
theorem xfinAs_some {h : Nat → Option (List C)} : ∀ {cs : List A} {ds : List A}, xfinAs h cs = some ds → ds.length = cs.length ∧ ∀ (k : Nat) (d : A), ds[k]? = some d → ∃ c, cs[k]? = some c ∧ xfinA h c = some d
  | [], ds, hf => by simp only [xfinAs, Option.some.injEq] at hf; subst hf; simp
  | c :: cs, ds, hf => by
    simp only [xfinAs, Option.bind_eq_some_iff, Option.some.injEq] at hf
    obtain ⟨d, h1, ds', h2, rfl⟩ := hf
    obtain ⟨i1, i2⟩ := xfinAs_some h2
    refine ⟨by simp [i1], fun k y hk => ?_⟩
    cases k with
    | zero => simp at hk; subst hk; exact ⟨c, rfl, h1⟩
    | succ k => simpa using i2 k y (by simpa using hk)
theorem xfinA_rep {P : Program} {x : Ent} (hx : x.ok) {s : St} {w : World} {E : Env} (h3 : RepE P x s w E) {r r' : A} {v : Value} (h : RepA w (Wn x s E) E r v) (hf : xfinA s.h r = some r') : RepA w x.Wf E0 r' v := by
  cases h with
  | one c v h =>
    simp only [xfinA, Option.bind_eq_some_iff, Option.some.injEq] at hf
    obtain ⟨d, hd, rfl⟩ := hf
    exact .one (.d d) v (xfinC_rep hx h3 h hd)
  | agg cs vs hl h =>
    simp only [xfinA, Option.bind_eq_some_iff, Option.some.injEq] at hf
    obtain ⟨ds, hds, rfl⟩ := hf
    obtain ⟨m1, m2⟩ := xfinCs_some hds
    refine .agg _ vs (by rw [hl, List.length_map, m1]) fun k c hk => ?_
    simp only [List.getElem?_map, Option.map_eq_some_iff] at hk
    obtain ⟨d, hd, rfl⟩ := hk
    obtain ⟨c0, hc0, hf0⟩ := m2 k d hd
    exact xfinC_rep hx h3 (h k c0 hc0) hf0
  | tup as vs hl _ => cases hf
  | any v => cases hf
theorem xfin_rep {P : Program} {x : Ent} (hx : x.ok) {s : St} {w : World} {E : Env} (h3 : RepE P x s w E) {r r' : A} {v : Value} (h : RepA w (Wn x s E) E r v) (hf : xfin s.h r = some r') : RepA w x.Wf E0 r' v := by
  cases r with
  | tup as =>
    cases h with
    | tup _ vs hl h =>
      simp only [xfin, Option.bind_eq_some_iff, Option.some.injEq] at hf
      obtain ⟨bs, hbs, rfl⟩ := hf
      obtain ⟨m1, m2⟩ := xfinAs_some hbs
      refine .tup _ vs (by rw [hl, m1]) fun k b hk => ?_
      obtain ⟨a0, ha0, hf0⟩ := m2 k b hk
      exact xfinA_rep hx h3 (h k a0 ha0) hf0
  | one c => exact xfinA_rep hx h3 h hf
  | agg cs => exact xfinA_rep hx h3 h hf
  | any => cases hf

/-- The results of a function, as they stand. -/
def xres (T : TT) (s : St) : ResultVar → Option A
  | .tmp t => some (s.t t)
  | .cell addr t => (match s.t addr, T t with
    | .one (.ref id off), some i => (match s.h id with
      | some cs => (match i.agg with
        | true => xif (decide (off + i.sz ≤ cs.length)) (some (.agg ((cs.drop off).take i.sz)))
        | false => (match cs[off]? with | some c => some (.one c) | none => none))
      | none => none)
    | _, _ => none)
def xresL (T : TT) (s : St) : List ResultVar → Option (List A)
  | [] => some []
  | r :: rs => (xres T s r).bind fun a => (xresL T s rs).bind fun as => some (a :: as)
def xresult (T : TT) (rs : List ResultVar) (s : St) : Option A :=
  match rs with
  | [r] => xres T s r
  | rs => (xresL T s rs).bind fun as => some (.tup as)

theorem xres_some {P : Program} {T : TT} (hT : TOk P T) {s : St} {r : ResultVar} {q : A} (h : xres T s r = some q) : ares P s r = some q := by
  cases r with
  | tmp t => exact h
  | cell addr t =>
    simp only [xres] at h
    split at h
    · rename_i id off i ha hi
      have f := hT t i hi
      simp only [ares, ha, f.agg, f.sz]
      split at h
      · rename_i cs hcs
        split at h
        · rename_i hag
          simp only [xif_some, decide_eq_true_eq] at h
          simp only [hag, hcs, Option.bind_some, if_pos h.1]; exact h.2
        · rename_i hag
          simp only [hag, hcs, Option.bind_some]
          split at h
          · rename_i c hc; simp only [hc, Option.map_some]; exact h
          · cases h
      · cases h
    · cases h
theorem xresL_some {P : Program} {T : TT} (hT : TOk P T) {s : St} : ∀ {rs : List ResultVar} {qs : List A}, xresL T s rs = some qs → rs.mapM (ares P s) = some qs
  | [], qs, h => by simpa [xresL] using h
  | r :: rs, qs, h => by
    simp only [xresL, Option.bind_eq_some_iff, Option.some.injEq] at h
    obtain ⟨a, h1, as, h2, rfl⟩ := h
    simp [List.mapM_cons, xres_some hT h1, xresL_some hT h2]
theorem xresult_some {P : Program} {T : TT} (hT : TOk P T) {s : St} {rs : List ResultVar} {q : A} (h : xresult T rs s = some q) : aresult P rs s = some q := by
  unfold xresult at h
  unfold aresult
  split at h
  · exact xres_some hT h
  · rename_i hne
    split
    · rename_i r; exact absurd rfl (hne r)
    · simp only [Option.bind_eq_some_iff, Option.some.injEq] at h
      obtain ⟨as, h1, rfl⟩ := h
      rw [xresL_some hT h1]; rfl

/-- What a function gives, by its body. -/
def xend (T : TT) (rs : List ResultVar) : Exit → St → Option A
  | .normal, s => (xresult T rs s).bind (xfin s.h)
  | .ret, s => (xresult T rs s).bind (xfin s.h)
  | _, _ => none
def xbody (T : TT) (Φ : Phi) (fuel : Nat) (ls : List LSpec) (fn : Func) (args : List A) : Option A :=
  match fn.body with
  | some c => xcode (xop T Φ) (fun _ => .plain) fuel 0 c ls (xend T fn.results.toList) (entry args (args.length + (fn.ntmps - args.length)))
  | none => none

theorem PCall.of_x {P : Program} {T : TT} (hT : TOk P T) {Φ : Phi} (hΦ : ∀ g args r, Φ g args = some r → PCall P g args r) (hm : P.follows .mixedOrders = true) {f : FuncId} {fn : Func} (hf : P.funcs[f]? = some fn)
    (hname : (fn.name == "runtime.NumGoroutine") = false) {fuel : Nat} {ls : List LSpec} {args : List A} {r : A} (h : xbody T Φ fuel ls fn args = some r) : PCall P f args r := by
  unfold xbody at h
  split at h
  · rename_i c hb
    refine ⟨⟨fn, hf, hname, by simp [hb]⟩, fun w W vs hgl hW hvs hrep => ?_⟩
    let x : Ent := { w0 := w, Wf := W, Own0 := fun _ _ => False, E0 := E0 }
    have hx : x.ok := ⟨hW, fun _ _ h => h.elim, hgl, fun _ h => h⟩
    let s0 := entry args (args.length + (fn.ntmps - args.length))
    have hno : ∀ b o, ¬ Own s0 E0 b o := by
      rintro b o (⟨id, cs, h, _⟩ | ⟨k, T, h, _⟩ | ⟨k, q, h, _⟩)
      · cases h
      · cases h
      · cases h
    have hE : RepE P x s0 w E0 := {
      fr := ⟨rfl, rfl, rfl, Nat.le_refl _, fun _ _ _ => rfl, fun _ _ _ _ _ h => h⟩
      n := rfl
      le := .refl _
      box := fun id cs h => by cases h
      inj := fun i j p q h => by cases h
      tip := fun k => rfl
      tlt := fun k T h => by cases h
      trow := fun k T h => by cases h
      tbox := fun k T id cs b o h => by cases h
      ttip := fun k k' T T' b o o' h => by cases h
      fresh := fun b o h => absurd h (hno b o)
      ob := fun id o h => by cases h
      oinj := fun i j a b h => by cases h
      hp := {
        n := rfl
        ob := fun k o h => absurd h (by simp [s0, entry])
        inj := fun i j a b h => absurd h (by simp [s0, entry])
        box := fun k o id cs h => absurd h (by simp [s0, entry])
        tip := fun k o j T b p h => absurd h (by simp [s0, entry]) } }
    have hst : RepSt P x s0 { tmps := vs ++ Array.replicate (fn.ntmps - vs.size) undef, defers := [] } w := by
      refine ⟨rfl, by simp [s0, entry, hvs], E0, hE, fun i => ?_⟩
      show RepA w _ E0 (args.getD i (.tup [])) _
      have kp : Keeps w W w (Wn x s0 E0) := Keeps.anti fun b o h => h.elim id fun h => absurd h (hno b o)
      by_cases hi : i < args.length
      · have hi' : i < vs.size := by omega
        have h1 := hrep i args[i] (List.getElem?_eq_getElem hi)
        have e1 : args.getD i (.tup []) = args[i] := by simp [hi]
        have e2 : (vs ++ Array.replicate (fn.ntmps - vs.size) undef).getD i undef = vs.getD i undef := by
          rw [Array.getD_eq_getD_getElem?, Array.getElem?_append_left hi', ← Array.getD_eq_getD_getElem?]
        rw [e1, e2]
        exact h1.keep kp (.refl _)
      · have e1 : args.getD i (.tup []) = .tup [] := by simp [hi]
        have e2 : (vs ++ Array.replicate (fn.ntmps - vs.size) undef).getD i undef = undef := by
          rw [Array.getD_eq_getD_getElem?, Array.getElem?_append_right (by omega), Array.getElem?_replicate]
          split <;> rfl
        rw [e1, e2]
        exact .tup [] [] rfl (by simp)
    have hq : ∀ e s', xend T fn.results.toList e s' = some r → ((e = .normal ∨ e = .ret) ∧ ∃ q, aresult P fn.results.toList s' = some q ∧ xfin s'.h q = some r) := fun e s' h => by
      cases e <;> simp only [xend, Option.bind_eq_some_iff, reduceCtorEq] at h
      · obtain ⟨q, h1, h2⟩ := h; exact ⟨.inl rfl, q, xresult_some hT h1, h2⟩
      · obtain ⟨q, h1, h2⟩ := h; exact ⟨.inr rfl, q, xresult_some hT h1, h2⟩
    have hwp := xcode_sound (X := xop T Φ) (kd := fun _ => .plain) (fun s o ty Ks Kp h hK => xop_sound_d hT hΦ rfl h hK) hm c ls _ _ hq s0 h x _ w hx (Nat.le_refl _) hst
    refine calls_of_wp hf hb (wp_mono hwp ?_)
    rintro e a' w' ⟨s', hr', ⟨he, q, hq1, hq2⟩, _⟩
    obtain ⟨h1, h2, E, h3, h4⟩ := hr'
    have close : a'.defers = [] ∧ ∃ v, (results fn a'.tmps).run P w' = .ok v w' ∧ ∃ v', Ending.returned v = .returned v' ∧ RepA w' W E0 r v' ∧ Below w.heap.size w w' := by
      obtain ⟨v, hv, hrv⟩ := results_run h3 h4 hq1
      exact ⟨h1, v, hv, v, rfl, xfin_rep hx h3 hrv hq2, ⟨h3.fr.os, h3.fr.tape, h3.fr.output, h3.fr.size, fun b hb => h3.fr.block b hb fun _ h => h⟩⟩
    rcases he with rfl | rfl
    · exact close
    · exact close
  · cases h

/-! With blocks under counted names. -/
def xokC : A → Bool
  | .one c => c.hok
  | _ => false
def xokR : A → Bool
  | .tup as => as.all xokC
  | a => xokC a
def xendH (T : TT) (rs : List ResultVar) : Exit → St → Option (A × Hp)
  | .normal, s => (xresult T rs s).bind fun r => xif (xokR r) (some (r, s.H))
  | .ret, s => (xresult T rs s).bind fun r => xif (xokR r) (some (r, s.H))
  | _, _ => none
noncomputable def xbodyH (T : TT) (Φ : Phi) (Ψ : Psi) (sel : Op → Sel) (fuel : Nat) (ls : List LSpec) (fn : Func) (args : List A) (H : Hp) : Option (A × Hp) :=
  match fn.body with
  | some c => xcode (hop T Φ Ψ sel) (kdOf sel) fuel 0 c ls (xendH T fn.results.toList) { entry args (args.length + (fn.ntmps - args.length)) with H := H }
  | none => none

theorem xokR_rep {w : World} {W W' : WSet} {E E' : Env} (hn : E'.hn = E.hn) (hγ : E'.γ = E.γ) (hgs : E'.gs = E.gs) (hW : ∀ b o, W' b o → W b o) {r : A} {v : Value} (hr : xokR r = true) (h : RepA w W E r v) : RepA w W' E' r v := by
  have key : ∀ {q : A} {u : Value}, xokC q = true → RepA w W E q u → RepA w W' E' q u := fun {q u} hq h => by
    unfold xokC at hq
    split at hq
    · exact .one _ _ (RepC.henv hn hγ hgs hq ((one_inv h).keep (Keeps.anti hW) (.refl E)))
    · cases hq
  unfold xokR at hr
  split at hr
  · rename_i as
    cases h with
    | tup _ vs hl h => exact .tup _ vs hl fun k q hq => key (List.all_eq_true.1 hr q (List.mem_of_getElem? hq)) (h k q hq)
  · exact key hr h

theorem HCall.of_x {P : Program} {T : TT} (hT : TOk P T) {Φ : Phi} (hΦ : ∀ g args r, Φ g args = some r → PCall P g args r) {Ψ : Psi} (hΨ : ∀ g args H p, Ψ g args H = some p → HCall P g args H p.1 p.2) {sel : Op → Sel}
    (hm : P.follows .mixedOrders = true) {f : FuncId} {fn : Func} (hf : P.funcs[f]? = some fn)
    (hname : (fn.name == "runtime.NumGoroutine") = false) {fuel : Nat} {ls : List LSpec} {args : List A} {H : Hp} {p : A × Hp} (h : xbodyH T Φ Ψ sel fuel ls fn args H = some p) : HCall P f args H p.1 p.2 := by
  unfold xbodyH at h
  split at h
  · rename_i c hb
    refine ⟨⟨fn, hf, hname, by simp [hb]⟩, fun w W E vs hgl hglo hW hno hE hvs hrep => ?_⟩
    let x : Ent := { w0 := w, Wf := W, Own0 := OwnH (hst H) E, E0 := E }
    have hx : x.ok := ⟨hW, hno, hgl, hglo⟩
    let s0 : St := { entry args (args.length + (fn.ntmps - args.length)) with H := H }
    have hE : RepE P x (hst H) w E := hE
    have hn0 : E.n = 0 := hE.n
    have hWeq : ∀ b o, Wn x s0 E b o ↔ Wn x (hst H) E b o := fun b o => Iff.rfl
    have hE1 : RepE P x s0 w E := hE.other rfl rfl rfl rfl rfl rfl rfl (.refl E) hE.fr (fun _ _ _ => rfl) (Keeps.anti fun b o h => (hWeq b o).1 h) (fun b o h => hE.ownH_fresh h)
      (hE.hp.keep rfl rfl rfl rfl (fun _ _ _ => rfl) (Keeps.anti fun b o h => (hWeq b o).1 h) (fun c v _ h => h) (fun k o id cs _ h => by cases h) (fun k o j T b p hk hj => hE.hp.tip k o j T b p hk hj))
    have hst : RepSt P x s0 { tmps := vs ++ Array.replicate (fn.ntmps - vs.size) undef, defers := [] } w := by
      refine ⟨rfl, by simp [s0, entry, hvs], E, hE1, fun i => ?_⟩
      show RepA w _ E (args.getD i (.tup [])) _
      by_cases hi : i < args.length
      · have hi' : i < vs.size := by omega
        have h1 := hrep i args[i] (List.getElem?_eq_getElem hi)
        have e1 : args.getD i (.tup []) = args[i] := by simp [hi]
        have e2 : (vs ++ Array.replicate (fn.ntmps - vs.size) undef).getD i undef = vs.getD i undef := by
          rw [Array.getD_eq_getD_getElem?, Array.getElem?_append_left hi', ← Array.getD_eq_getD_getElem?]
        rw [e1, e2]
        exact h1.keep (Keeps.anti fun b o h => (hWeq b o).1 h) (.refl _)
      · have e1 : args.getD i (.tup []) = .tup [] := by simp [hi]
        have e2 : (vs ++ Array.replicate (fn.ntmps - vs.size) undef).getD i undef = undef := by
          rw [Array.getD_eq_getD_getElem?, Array.getElem?_append_right (by omega), Array.getElem?_replicate]
          split <;> rfl
        rw [e1, e2]
        exact .tup [] [] rfl (by simp)
    have hq : ∀ e s', xendH T fn.results.toList e s' = some p → ((e = .normal ∨ e = .ret) ∧ aresult P fn.results.toList s' = some p.1 ∧ xokR p.1 = true ∧ s'.H = p.2) := fun e s' h => by
      cases e <;> simp only [xendH, Option.bind_eq_some_iff, xif_some, Option.some.injEq, reduceCtorEq] at h
      · obtain ⟨q, h1, h2, rfl⟩ := h; exact ⟨.inl rfl, xresult_some hT h1, h2, rfl⟩
      · obtain ⟨q, h1, h2, rfl⟩ := h; exact ⟨.inr rfl, xresult_some hT h1, h2, rfl⟩
    have hwp := xcode_sound (X := hop T Φ Ψ sel) (kd := kdOf sel) (fun s o ty Ks Kp h hK => hop_sound_d hT hΦ hΨ h hK) hm c ls _ _ hq s0 h x _ w hx (by show E.n ≤ 0; omega) hst
    refine calls_of_wp hf hb (wp_mono hwp ?_)
    rintro e a' w' ⟨s', hr', ⟨he, hq1, hq2, hq3⟩, _⟩
    obtain ⟨h1, h2, E', h3, h4⟩ := hr'
    have hle : E.le E'.h0 := ⟨by show E.n ≤ 0; omega, fun id hid => by omega, fun k hk => by omega, h3.le.hn, h3.le.γ⟩
    obtain ⟨b1, b2⟩ := h3.bare hle
    rw [hq3] at b1
    have close : a'.defers = [] ∧ ∃ v, (results fn a'.tmps).run P w' = .ok v w' ∧ ∃ v' E', Ending.returned v = .returned v' ∧ RepE P x (Go.Av.hst p.2) w' E' ∧ E.le E' ∧ RepA w' (Wn x (Go.Av.hst p.2) E') E' p.1 v' := by
      obtain ⟨v, hv, hrv⟩ := results_run h3 h4 hq1
      exact ⟨h1, v, hv, v, E'.h0, rfl, b1, hle, xokR_rep (E := E') (E' := E'.h0) rfl rfl rfl (by rw [← hq3]; exact b2) hq2 hrv⟩
    rcases he with rfl | rfl
    · exact close
    · exact close
  · cases h

/-- The results read as pure data. -/
def xlowRs (H : Hp) : List A → Option (List A)
  | [] => some []
  | .one c :: as => (hLow H 3 c).bind fun d => (xlowRs H as).bind fun l => some (.one (.d d) :: l)
  | _ :: _ => none
def xlowR (H : Hp) : A → Option A
  | .one c => (hLow H 3 c).bind fun d => some (.one (.d d))
  | .tup as => (xlowRs H as).bind fun l => some (.tup l)
  | _ => none
theorem xlowRs_some {H : Hp} : ∀ {as l : List A}, xlowRs H as = some l → l.length = as.length ∧ ∀ (k : Nat) (b : A), l[k]? = some b → ∃ c d, as[k]? = some (.one c) ∧ hLow H 3 c = some d ∧ b = .one (.d d)
  | [], l, h => by simp only [xlowRs, Option.some.injEq] at h; subst h; simp
  | .one c :: as, l, h => by
    simp only [xlowRs, Option.bind_eq_some_iff, Option.some.injEq] at h
    obtain ⟨d, h1, l', h2, rfl⟩ := h
    obtain ⟨i1, i2⟩ := xlowRs_some h2
    refine ⟨by simp [i1], fun k y hk => ?_⟩
    cases k with
    | zero => simp at hk; subst hk; exact ⟨c, d, rfl, h1, rfl⟩
    | succ k => simpa using i2 k y (by simpa using hk)
  | .agg _ :: _, _, h => by simp [xlowRs] at h
  | .tup _ :: _, _, h => by simp [xlowRs] at h
  | .any :: _, _, h => by simp [xlowRs] at h

theorem PCall.of_heap {P : Program} {f : FuncId} {args : List A} {r r' : A} {H' : Hp} (h : HCall P f args [] r H') (hl : xlowR H' r = some r') : PCall P f args r' := by
  refine ⟨h.1, fun w W vs hgl hW hvs hrep => ?_⟩
  have hnoH : ∀ b o, ¬ OwnH (hst []) E0 b o := fun b o ⟨k, q, hk, _⟩ => absurd hk (by simp [hst])
  let x : Ent := ⟨w, W, OwnH (hst []) E0, E0⟩
  have hno : ∀ b o, ¬ Own (hst []) E0 b o := fun b o h => hnoH b o (own_hst rfl h)
  have hE : RepE P x (hst []) w E0 := {
    fr := ⟨rfl, rfl, rfl, Nat.le_refl _, fun _ _ _ => rfl, fun _ _ _ _ _ h => h⟩
    n := rfl
    le := .refl _
    box := fun id cs h => by cases h
    inj := fun i j p q h => by cases h
    tip := fun k => rfl
    tlt := fun k T h => by cases h
    trow := fun k T h => by cases h
    tbox := fun k T id cs b o h => by cases h
    ttip := fun k k' T T' b o o' h => by cases h
    fresh := fun b o h => absurd h (hno b o)
    ob := fun id o h => by cases h
    oinj := fun i j a b h => by cases h
    hp := {
      n := rfl
      ob := fun k o h => absurd h (by simp [hst])
      inj := fun i j a b h => absurd h (by simp [hst])
      box := fun k o id cs h => absurd h (by simp [hst])
      tip := fun k o j T b p h => absurd h (by simp [hst]) } }
  refine (h.2 w W E0 vs hgl (fun o h => hnoH 0 o h) hW (fun b o h => absurd h (hnoH b o)) hE hvs (fun k q hq => (hrep k q hq).keep (Keeps.anti fun b o h => h.elim _root_.id fun h => absurd h (hno b o)) (.refl _))).mono ?_
  rintro e w' ⟨v, E', rfl, h3, hle, hv⟩
  have h3 : RepE P x (hst H') w' E' := h3
  have hv : RepA w' (Wn x (hst H') E') E' r v := hv
  have hW1 : ∀ b p, W b p → Wn x (hst H') E' b p := fun b p h => .inl h
  have hW2 : ∀ b p, OwnH (hst H') E' b p → ¬ W b p := fun b p h hw => by
    rcases h3.ownH_fresh h with h5 | h5
    · have h5 : w.heap.size ≤ b := h5
      have := hW b p hw; omega
    · exact hnoH b p h5
  refine ⟨v, rfl, ?_, ⟨h3.fr.os, h3.fr.tape, h3.fr.output, h3.fr.size, fun b hb => h3.fr.block b hb fun o h => hnoH b o h⟩⟩
  cases hv with
  | one c v h =>
    simp only [xlowR, Option.bind_eq_some_iff, Option.some.injEq] at hl
    obtain ⟨d, hd, rfl⟩ := hl
    exact .one (.d d) v (hLow_rep h3 hW1 hW2 3 c v d h hd)
  | tup as vs hlen hh =>
    simp only [xlowR, Option.bind_eq_some_iff, Option.some.injEq] at hl
    obtain ⟨l, hl, rfl⟩ := hl
    obtain ⟨m1, m2⟩ := xlowRs_some hl
    refine .tup _ vs (by rw [hlen, m1]) fun k b hk => ?_
    obtain ⟨c, d, g1, g2, rfl⟩ := m2 k b hk
    exact .one (.d d) _ (hLow_rep h3 hW1 hW2 3 c _ d (one_inv (hh k _ g1)) g2)
  | agg cs vs hl _ => cases hl
  | any v => cases hl

/-- A function, as it is run: with blocks under counted names, or without. -/
structure FE where
  fn : Func
  ls : List LSpec
  sel : Option (Op → Sel)
structure Orc where
  Φ : Phi
  Ψ : Psi
/-- The functions of a program, to a depth of calls and rounds; beside them those whose contracts are given. -/
noncomputable def OrcOf (T : TT) (fns : FuncId → Option FE) (b : Orc) : Nat → Orc
  | 0 => b
  | n + 1 => {
      Φ := fun g args => match fns g with
        | some e => (match e.sel with
          | none => xbody T (OrcOf T fns b n).Φ n e.ls e.fn args
          | some sel => (xbodyH T (OrcOf T fns b n).Φ (OrcOf T fns b n).Ψ sel n e.ls e.fn args []).bind fun p => xlowR p.2 p.1)
        | none => b.Φ g args
      Ψ := fun g args H => match fns g with
        | some e => (match e.sel with
          | none => none
          | some sel => xbodyH T (OrcOf T fns b n).Φ (OrcOf T fns b n).Ψ sel n e.ls e.fn args H)
        | none => b.Ψ g args H }

structure Orc.ok (P : Program) (o : Orc) : Prop where
  Φ : ∀ g args r, o.Φ g args = some r → PCall P g args r
  Ψ : ∀ g args H p, o.Ψ g args H = some p → HCall P g args H p.1 p.2

theorem OrcOf_ok {P : Program} {T : TT} (hT : TOk P T) (hm : P.follows .mixedOrders = true) {fns : FuncId → Option FE} {b : Orc} (hb : b.ok P)
    (hf : ∀ g e, fns g = some e → P.funcs[g]? = some e.fn ∧ (e.fn.name == "runtime.NumGoroutine") = false) : ∀ n : Nat, (OrcOf T fns b n).ok P
  | 0 => hb
  | n + 1 => by
    have ih := OrcOf_ok hT hm hb hf n
    refine ⟨fun g args r h => ?_, fun g args H p h => ?_⟩
    · simp only [OrcOf] at h
      split at h
      · rename_i e he
        split at h
        · exact PCall.of_x hT ih.Φ hm (hf g e he).1 (hf g e he).2 h
        · simp only [Option.bind_eq_some_iff] at h
          obtain ⟨p, h1, h2⟩ := h
          exact PCall.of_heap (HCall.of_x hT ih.Φ ih.Ψ hm (hf g e he).1 (hf g e he).2 h1) h2
      · exact hb.Φ g args r h
    · simp only [OrcOf] at h
      split at h
      · rename_i e he
        split at h
        · cases h
        · exact HCall.of_x hT ih.Φ ih.Ψ hm (hf g e he).1 (hf g e he).2 h
      · exact hb.Ψ g args H p h

end Go.Av
