/-
  Operations on blocks under counted names, run; sound. Over any program. No toy.
-/
import Derived.Test.YtnfbgleaodkjpaaHvX3
set_option linter.all false
namespace Go.Av
open Go.RowKit

/-- How an operation is run: on plain names; on counted ones; as a load of pure data; as a call that looks at counted blocks; as one that may turn them; as a comparison with nil; not at all. -/
inductive Sel where
  | st | hp | dld | cS | cH | nl | no | sx

def pheap : Op → Bool
  | .indexAddr .. | .load .. | .slice .. | .makeFunc .. | .nilCheck _ => true
  | .call c => (match c.callee with | .builtin .len => true | _ => false)
  | _ => false
def kdOf (sel : Op → Sel) (o : Op) : OKd := match sel o with
  | .st => .plain
  | .hp => if pheap o then .plain else .heap
  | .dld => .dld
  | _ => .heap

/-- What a call gives that may turn blocks. -/
abbrev Psi := FuncId → List A → Hp → Option (A × Hp)

def xone (a : A) : Option C := match a with | .one c => some c | _ => none
theorem xone_some {a : A} {c : C} (h : xone a = some c) : a = .one c := by unfold xone at h; split at h <;> simp_all
def hNilC (c : C) : Option C := match c with | .hp k off => some (.hp k off) | _ => none
theorem hNilC_some {c d : C} (h : hNilC c = some d) : ∃ k off, c = .hp k off ∧ d = .hp k off := by
  unfold hNilC at h; split at h
  · simp only [Option.some.injEq] at h; exact ⟨_, _, rfl, h.symm⟩
  · cases h
def hPush (H : Hp) (o : HO) : Option Hp := some (H ++ [some o])

section
variable {R : Type}
open Classical in
/-- Either way the same. -/
noncomputable def xboth (x y : Option R) : Option R := if x = y then y else none
noncomputable def xnil (n : Nat) (x y : Option R) : Option R := match n with | 0 => xboth x y | _ + 1 => y
theorem xnil_some {n : Nat} {x y : Option R} {r : R} (h : xnil n x y = some r) : y = some r ∧ (n = 0 → x = some r) := by
  cases n with
  | zero =>
    simp only [xnil, xboth] at h
    split at h
    · rename_i e; exact ⟨h, fun _ => e.trans h⟩
    · cases h
  | succ n => exact ⟨h, fun e => by cases e⟩

def xlowHK (H : Hp) : List A → (List A → Option R) → Option R
  | [], K => K []
  | .one c :: as, K => (hLow H 3 c).bind fun d => xlowHK H as fun l => K (.one (.d d) :: l)
  | _ :: _, _ => none
theorem xlowHK_some {H : Hp} : ∀ {as : List A} {K : List A → Option R} {r : R}, xlowHK H as K = some r → ∃ l, as.mapM (alowH H) = some l ∧ K l = some r
  | [], K, r, h => ⟨[], by simp, h⟩
  | .one c :: as, K, r, h => by
    simp only [xlowHK, Option.bind_eq_some_iff] at h
    obtain ⟨d, hd, h⟩ := h
    obtain ⟨l, h1, h2⟩ := xlowHK_some h
    exact ⟨_, by simp [List.mapM_cons, alowH, hd, h1], h2⟩
  | .agg _ :: _, _, _, h => by simp [xlowHK] at h
  | .tup _ :: _, _, _, h => by simp [xlowHK] at h
  | .any :: _, _, _, h => by simp [xlowHK] at h

def xhokK : List A → (List A → Option R) → Option R
  | [], K => K []
  | .one c :: as, K => xif c.hok (xhokK as fun l => K (.one c :: l))
  | _ :: _, _ => none
theorem xhokK_some : ∀ {as : List A} {K : List A → Option R} {r : R}, xhokK as K = some r → ∃ l, as.mapM ahok = some l ∧ K l = some r
  | [], K, r, h => ⟨[], by simp, h⟩
  | .one c :: as, K, r, h => by
    simp only [xhokK, xif_some] at h
    obtain ⟨hc, h⟩ := h
    obtain ⟨l, h1, h2⟩ := xhokK_some h
    exact ⟨_, by simp [List.mapM_cons, ahok, hc, h1], h2⟩
  | .agg _ :: _, _, _, h => by simp [xhokK] at h
  | .tup _ :: _, _, _, h => by simp [xhokK] at h
  | .any :: _, _, _, h => by simp [xhokK] at h

/-- What a call gives that may turn blocks, in its own form where it is plain. -/
def xRn (oi : Option TI) (a : A) (K : A → Option R) : Option R := match oi with
  | none => K a
  | some i => (xone a).bind fun c => xCn (i.cks.headD .other) c fun c => K (.one c)
theorem xRn_some {oi : Option TI} {a : A} {K : A → Option R} {r : R} (h : xRn oi a K = some r) : K a = some r := by
  unfold xRn at h
  split at h
  · exact h
  · simp only [Option.bind_eq_some_iff] at h
    obtain ⟨c, h1, h2⟩ := h
    rw [xone_some h1]; exact xCn_some h2

variable (T : TT)
def xsl (t : TypeId) (K : TI → Option R) : Option R := match T t with
  | some i => (match i.kind with
    | .slice e => (match T e with | some ei => xif (ei.sz == 1) (K ei) | none => none)
    | _ => none)
  | none => none
def xz (ei : TI) (K : C → Option R) : Option R := match ei.zero with | [z] => xif z.hok (K z) | _ => none
def xo1 (t : TypeId) (K : TI → Option R) : Option R := match T t with | some i => xif (i.sz == 1) (K i) | none => none

def xhop (s : St) (o : Op) (K : A → St → Option R) : Option R :=
  match o with
  | .indexAddr t y ix => xsl T t fun _ => (xone (aeval s y)).bind fun c => (xIx (aeval s ix)).bind fun i => (hAddr c i).bind fun p => K (.one p) s
  | .load t y => xo1 T t fun i => xif (!i.agg) ((xone (aeval s y)).bind fun p => (hLoad s.H p).bind fun c => xCn (i.cks.headD .other) c fun c => K (.one c) s)
  | .store t y z => xo1 T t fun _ => (xone (aeval s y)).bind fun p => (xone (aeval s z)).bind fun c => (hStore s.H p c).bind fun H => K (.tup []) (s.hput H)
  | .slice t y lo hi mx => xsl T t fun _ => (xone (aeval s y)).bind fun c => (hLen c).bind fun n => (xobd s 0 lo).bind fun a => (xobd s n hi).bind fun b => (match mx with
    | none => (hSub c a b).bind fun r => K (.one r) s
    | some m => (xobd s 0 (some m)).bind fun q => xif (hi.isSome && (decide (0 ≤ a) && (decide (a ≤ b) && (decide (b ≤ q) && decide (q ≤ n))))) (K (.one .any) s))
  | .makeSlice t l c => xsl T t fun ei => xz ei fun z => (xIx (aeval s l)).bind fun a => (xIx (aeval s c)).bind fun b => xif (decide (a = b) && (decide (0 ≤ a) && (decide (a ≤ 9223372036854775807) && decide (ei.by_ * a ≤ 281474976710656))))
      ((hPush s.H ⟨List.replicate a.toNat z, true⟩).bind fun H => K (.one (.hs s.H.length 0 a.toNat)) (s.hput H))
  | .alloc e => xo1 T e fun i => xz i fun z => (hPush s.H ⟨[z], true⟩).bind fun H => K (.one (.hp s.H.length 0)) (s.hput H)
  | .box _ y => (xone (aeval s y)).bind fun c => xif c.hok ((hPush s.H ⟨[c], true⟩).bind fun H => K (.one (.hp s.H.length 0)) (s.hput H))
  | .buildSlice t len parts => xsl T t fun ei => xz ei fun _ => xif (decide (len ≤ 16777216) && (parts.toList.map (·.1) == List.range len))
      ((oneCs (parts.toList.map fun p => aeval s p.2)).bind fun cs => (hPush s.H ⟨cs, true⟩).bind fun H => K (.one (.hs s.H.length 0 len)) (s.hput H))
  | .nilCheck y => (xone (aeval s y)).bind fun c => (hNilC c).bind fun c => K (.one c) s
  | .makeFunc fn first captured => (match fn, first.toList with
    | .func f, [] => (hpIds (captured.toList.map (aeval s))).bind fun ks => K (.one (.hclo f ks)) s
    | _, _ => none)
  | .call c => (match c.callee with
    | .builtin b => (match b, c.args.toList, c.argTypes.toList with
      | .len, [y], [t] => xsl T t fun _ => (xone (aeval s y)).bind fun v => (hLen v).bind fun n => K (.one (.d (.v (.int .i64 n)))) s
      | .cap, [y], [t] => xsl T t fun _ => (xone (aeval s y)).bind fun v => (hCap s.H v).bind fun n => K (.one (.d (.v (.int .i64 n)))) s
      | .append, [y, z], [t, t'] => (match t' == t with
        | true => (xsl T t fun ei => xz ei fun _ => xif (decide (0 < ei.by_)) ((xone (aeval s y)).bind fun v => (hLen v).bind fun n => (xone (aeval s z)).bind fun u => (hCells s.H u).bind fun ys =>
          xif (decide ((n + ys.length) * ei.by_ ≤ 140737488355328)) ((hApp s.H v ys).bind fun p => K (.one p.1) (s.hput p.2))))
        | false => (xsl T t fun ei => xz ei fun zc => (match T t' with
          | some it => (match it.kind with
            | .int kn => xif (decide (0 < ei.by_)) ((xone (aeval s y)).bind fun v => (hLen v).bind fun n => (xI kn (aeval s z)).bind fun m =>
              xif (decide (0 ≤ m) && decide ((n + m.toNat) * ei.by_ ≤ 140737488355328)) ((hAppZ s.H v m.toNat zc).bind fun p => K (.one p.1) (s.hput p.2)))
            | _ => none)
          | none => none)))
      | .copy, [y, z], [t, t'] => xif (t' == t) (xsl T t fun _ => (xone (aeval s y)).bind fun v => (xone (aeval s z)).bind fun u => (hCells s.H u).bind fun ys => (hCopy s.H v ys).bind fun p => K (.one (.d (.v (.int .i64 p.1)))) (s.hput p.2))
      | .clear, [y], [t] => xsl T t fun ei => xz ei fun zc => (xone (aeval s y)).bind fun v => (hClear s.H zc v).bind fun H => K (.tup []) (s.hput H)
      | _, _, _ => none)
    | _ => none)
  | _ => none

def xdld (s : St) (o : Op) (K : A → St → Option R) : Option R :=
  match o with
  | .load t y => xo1 T t fun i => xif (!i.agg) ((xone (aeval s y)).bind fun p => (hLoad [] p).bind fun c => xCn (i.cks.headD .other) c fun c => K (.one c) s)
  | _ => none
noncomputable def xnilop (s : St) (o : Op) (K : A → St → Option R) : Option R :=
  match o with
  | .binOp .eql t y (.const (.slice none 0 0)) _ => xsl T t fun _ => (xone (aeval s y)).bind fun c => (hLen c).bind fun n => xnil n (K (.one (.d (.v (.bool true)))) s) (K (.one (.d (.v (.bool false)))) s)
  | _ => none
def xcS (Φ : Phi) (s : St) (o : Op) (ty : TypeId) (K : A → St → Option R) : Option R :=
  match o with
  | .call c => (match c.callee with
    | .value f => (match aCallee s f with
      | some (g, caps) => xlowHK s.H (c.args.toList.map (aeval s) ++ caps) fun as => (Φ g as).bind fun r => xAn (T ty) r fun r => xif r.scal (K r s)
      | none => none)
    | _ => none)
  | _ => none
def xcH (Ψ : Psi) (s : St) (o : Op) (ty : TypeId) (K : A → St → Option R) : Option R :=
  match o with
  | .call c => (match c.callee with
    | .value f => (match aCallee s f with
      | some (g, caps) => xhokK (c.args.toList.map (aeval s) ++ caps) fun as => (Ψ g as s.H).bind fun p => xRn (T ty) p.1 fun r => K r (s.hput p.2)
      | none => none)
    | _ => none)
  | _ => none
/-- A part beyond the length. -/
def xsx (s : St) (o : Op) (K : A → St → Option R) : Option R :=
  match o with
  | .slice t y lo hi none => xsl T t fun _ => (xone (aeval s y)).bind fun c => (hLen c).bind fun n => (xobd s 0 lo).bind fun a => (xobd s n hi).bind fun b => (hSubX s.H c a b).bind fun r => K (.one r) s
  | _ => none
noncomputable def hop (Φ : Phi) (Ψ : Psi) (sel : Op → Sel) (s : St) (o : Op) (ty : TypeId) (K : A → St → Option R) : Option R :=
  match sel o with
  | .st => xop T Φ s o ty K
  | .hp => xhop T s o K
  | .dld => xdld T s o K
  | .nl => xnilop T s o K
  | .cS => xcS T Φ s o ty K
  | .cH => xcH T Ψ s o ty K
  | .no => none
  | .sx => xsx T s o K
end

section
variable {R : Type} {P : Program} {T : TT} (hT : TOk P T) {s : St} {res : R} {K : A → Option R} {Ks : A → St → Option R} {Kp : A → St → Prop}
include hT

theorem xsl_some {t : TypeId} {K : TI → Option R} (h : xsl T t K = some res) : ∃ e ei, sl1 P t e ∧ TFact P e ei ∧ K ei = some res := by
  unfold xsl at h
  split at h
  · rename_i i hi
    have fk := (hT t i hi).kind
    split at h
    · rename_i e hk
      rw [hk] at fk
      split at h
      · rename_i ei hei
        have g := hT e ei hei
        simp only [xif_some, beq_iff_eq] at h
        exact ⟨e, ei, ⟨fk.1, by rw [g.sz, h.1]⟩, g, h.2⟩
      · cases h
    · cases h
  · cases h
omit hT in
theorem xz_some {e : TypeId} {ei : TI} (g : TFact P e ei) {K : C → Option R} (h : xz ei K = some res) : ∃ z, zcell P e = some z ∧ K z = some res := by
  unfold xz at h
  split at h
  · rename_i z hz
    simp only [xif_some] at h
    exact ⟨z, by unfold zcell; rw [g.zero, hz]; simp [h.1], h.2⟩
  · cases h
theorem xo1_some {t : TypeId} {K : TI → Option R} (h : xo1 T t K = some res) : ∃ i, TFact P t i ∧ tsz P t = some 1 ∧ K i = some res := by
  unfold xo1 at h
  split at h
  · rename_i i hi
    have g := hT t i hi
    simp only [xif_some, beq_iff_eq] at h
    exact ⟨i, g, by rw [g.sz, h.1], h.2⟩
  · cases h

theorem xhop_sound {o : Op} (h : xhop T s o Ks = some res) (hK : ∀ r s', Ks r s' = some res → Kp r s') : aheap P s o Kp := by
  cases o <;> simp only [xhop, reduceCtorEq] at h
  case indexAddr t y ix =>
    obtain ⟨e, ei, h1, _, h⟩ := xsl_some hT h
    simp only [Option.bind_eq_some_iff] at h
    obtain ⟨c, hc, i, hi, p, hp, h⟩ := h
    obtain ⟨k, hi⟩ := xIx_some hi
    exact ⟨e, c, k, i, p, h1, xone_some hc, hi, hp, hK _ _ h⟩
  case load t y =>
    obtain ⟨i, g, h1, h⟩ := xo1_some hT h
    simp only [xif_some, Option.bind_eq_some_iff, Bool.not_eq_true'] at h
    obtain ⟨ha, p, hp, c, hc, h⟩ := h
    exact ⟨p, c, by rw [g.agg, ha], h1, xone_some hp, hc, hK _ _ (xCn_some h)⟩
  case store t y z =>
    obtain ⟨i, g, h1, h⟩ := xo1_some hT h
    simp only [Option.bind_eq_some_iff] at h
    obtain ⟨p, hp, c, hc, H, hH, h⟩ := h
    exact ⟨p, c, H, h1, xone_some hp, xone_some hc, hH, hK _ _ h⟩
  case slice t y lo hi mx =>
    obtain ⟨e, ei, h1, _, h⟩ := xsl_some hT h
    simp only [Option.bind_eq_some_iff] at h
    obtain ⟨c, hc, n, hn, a, ha, b, hb, h⟩ := h
    cases mx with
    | none =>
      simp only [Option.bind_eq_some_iff] at h
      obtain ⟨r, hr, h⟩ := h
      exact ⟨e, c, n, a, b, r, h1, xone_some hc, hn, xobd_some ha, xobd_some hb, hSubX_of hr, hK _ _ h⟩
    | some m =>
      simp only [Option.bind_eq_some_iff, xif_some, Bool.and_eq_true, decide_eq_true_eq] at h
      obtain ⟨q, hq, ⟨k1, k2, k3, k4, k5⟩, h⟩ := h
      exact ⟨e, c, n, a, b, q, h1, xone_some hc, hn, xobd_some ha, k1, xobd_some hb, xobd_some hq, k2, k3, k4, k5, hK _ _ h⟩
  case makeSlice t l c =>
    obtain ⟨e, ei, h1, g, h⟩ := xsl_some hT h
    obtain ⟨z, hz, h⟩ := xz_some g h
    simp only [Option.bind_eq_some_iff, xif_some, Bool.and_eq_true, decide_eq_true_eq] at h
    obtain ⟨a, ha, b, hb, ⟨rfl, k1, k2, k3⟩, H, hH, h⟩ := h
    obtain ⟨ka, ha⟩ := xIx_some ha
    obtain ⟨kb, hb⟩ := xIx_some hb
    simp only [hPush, Option.some.injEq] at hH
    subst hH
    exact ⟨e, ei.by_, z, ka, kb, a, h1, g.by_, hz, ha, hb, k1, k2, k3, hK _ _ h⟩
  case alloc e =>
    obtain ⟨i, g, h1, h⟩ := xo1_some hT h
    obtain ⟨z, hz, h⟩ := xz_some g h
    simp only [Option.bind_eq_some_iff] at h
    obtain ⟨H, hH, h⟩ := h
    simp only [hPush, Option.some.injEq] at hH
    subst hH
    exact ⟨z, h1, hz, hK _ _ h⟩
  case box e y =>
    simp only [Option.bind_eq_some_iff, xif_some] at h
    obtain ⟨c, hc, k1, H, hH, h⟩ := h
    simp only [hPush, Option.some.injEq] at hH
    subst hH
    exact ⟨c, xone_some hc, k1, hK _ _ h⟩
  case buildSlice t len parts =>
    obtain ⟨e, ei, h1, g, h⟩ := xsl_some hT h
    obtain ⟨z, hz, h⟩ := xz_some g h
    simp only [Option.bind_eq_some_iff, xif_some, Bool.and_eq_true, decide_eq_true_eq, beq_iff_eq] at h
    obtain ⟨⟨k1, k2⟩, cs, hcs, H, hH, h⟩ := h
    simp only [hPush, Option.some.injEq] at hH
    subst hH
    exact ⟨e, cs, h1, by rw [hz]; rfl, k1, k2, hcs, hK _ _ h⟩
  case nilCheck y =>
    simp only [Option.bind_eq_some_iff] at h
    obtain ⟨c, hc, d, hd, h⟩ := h
    obtain ⟨k, off, rfl, rfl⟩ := hNilC_some hd
    exact ⟨k, off, xone_some hc, hK _ _ h⟩
  case makeFunc fn first captured =>
    split at h
    · rename_i f hf
      simp only [Option.bind_eq_some_iff] at h
      obtain ⟨ks, hks, h⟩ := h
      exact ⟨_, ks, rfl, hf, hks, hK _ _ h⟩
    · cases h
  case call c =>
    obtain ⟨callee, args, tys⟩ := c
    unfold aheap
    simp only [] at h ⊢
    cases callee with
    | builtin b =>
      simp only [] at h ⊢
      split at h
      · rename_i y t ha ht
        simp only [ha, ht]
        obtain ⟨e, ei, h1, _, h⟩ := xsl_some hT h
        simp only [Option.bind_eq_some_iff] at h
        obtain ⟨v, hv, n, hn, h⟩ := h
        exact ⟨e, v, n, h1, xone_some hv, hn, hK _ _ h⟩
      · rename_i y t ha ht
        simp only [ha, ht]
        obtain ⟨e, ei, h1, _, h⟩ := xsl_some hT h
        simp only [Option.bind_eq_some_iff] at h
        obtain ⟨v, hv, n, hn, h⟩ := h
        exact ⟨e, v, n, h1, xone_some hv, hn, hK _ _ h⟩
      · rename_i y z t t' ha ht
        simp only [ha, ht]
        split at h
        · rename_i htt
          obtain rfl : t' = t := by simpa using htt
          obtain ⟨e, ei, h1, g, h⟩ := xsl_some hT h
          obtain ⟨zc, hz, h⟩ := xz_some g h
          simp only [Option.bind_eq_some_iff, xif_some, decide_eq_true_eq] at h
          obtain ⟨hb, v, hv, n, hn, u, hu, ys, hys, hle, p, hp, h⟩ := h
          exact .inl ⟨rfl, e, ei.by_, zc, v, n, u, ys, p, h1, g.by_, hb, hz, xone_some hv, hn, xone_some hu, hys, hle, hp, hK _ _ h⟩
        · obtain ⟨e, ei, h1, g, h⟩ := xsl_some hT h
          obtain ⟨zc, hz, h⟩ := xz_some g h
          split at h
          · rename_i it hit
            have fk := (hT t' it hit).kind
            split at h
            · rename_i kn hkn
              rw [hkn] at fk
              simp only [Option.bind_eq_some_iff, xif_some, Bool.and_eq_true, decide_eq_true_eq] at h
              obtain ⟨hb, v, hv, n, hn, m, hm, ⟨hm0, hle⟩, p, hp, h⟩ := h
              exact .inr ⟨e, ei.by_, zc, v, n, kn, kn, m, p, h1, g.by_, hb, hz, fk.1, xone_some hv, hn, xI_some hm, hm0, hle, hp, hK _ _ h⟩
            · cases h
          · cases h
      · rename_i y z t t' ha ht
        simp only [xif_some, beq_iff_eq] at h
        obtain ⟨rfl, h⟩ := h
        simp only [ha, ht]
        obtain ⟨e, ei, h1, g, h⟩ := xsl_some hT h
        simp only [Option.bind_eq_some_iff] at h
        obtain ⟨v, hv, u, hu, ys, hys, p, hp, h⟩ := h
        exact ⟨trivial, e, v, u, ys, p, h1, xone_some hv, xone_some hu, hys, hp, hK _ _ h⟩
      · rename_i y t ha ht
        simp only [ha, ht]
        obtain ⟨e, ei, h1, g, h⟩ := xsl_some hT h
        obtain ⟨zc, hz, h⟩ := xz_some g h
        simp only [Option.bind_eq_some_iff] at h
        obtain ⟨v, hv, H, hH, h⟩ := h
        exact ⟨e, zc, v, H, h1, hz, xone_some hv, hH, hK _ _ h⟩
      · cases h
    | _ => cases h

theorem xdld_sound {o : Op} (h : xdld T s o Ks = some res) (hK : ∀ r s', Ks r s' = some res → Kp r s') : aDload P s o Kp := by
  unfold xdld at h
  split at h
  · obtain ⟨i, g, h1, h⟩ := xo1_some hT h
    simp only [xif_some, Option.bind_eq_some_iff, Bool.not_eq_true'] at h
    obtain ⟨ha, p, hp, c, hc, h⟩ := h
    exact ⟨p, c, by rw [g.agg, ha], h1, xone_some hp, hc, hK _ _ (xCn_some h)⟩
  · cases h
theorem xnilop_sound {o : Op} (h : xnilop T s o Ks = some res) (hK : ∀ r s', Ks r s' = some res → Kp r s') : aheap P s o Kp := by
  unfold xnilop at h
  split at h
  · obtain ⟨e, ei, h1, _, h⟩ := xsl_some hT h
    simp only [Option.bind_eq_some_iff] at h
    obtain ⟨c, hc, n, hn, h⟩ := h
    obtain ⟨h2, h3⟩ := xnil_some h
    exact ⟨e, c, n, rfl, h1.1, rfl, xone_some hc, hn, hK _ _ h2, fun e => hK _ _ (h3 e)⟩
  · cases h

variable {Φ : Phi} (hΦ : ∀ g args r, Φ g args = some r → PCall P g args r) {Ψ : Psi} (hΨ : ∀ g args H p, Ψ g args H = some p → HCall P g args H p.1 p.2)
include hΦ hΨ
omit hT hΨ in
theorem xcS_sound {o : Op} {ty : TypeId} (h : xcS T Φ s o ty Ks = some res) (hK : ∀ r s', Ks r s' = some res → Kp r s') : ∃ c f, o = .call c ∧ c.callee = .value f ∧ ascal P s f c.args.toList Kp := by
  unfold xcS at h
  split at h
  · rename_i c
    split at h
    · rename_i f hf
      split at h
      · rename_i g caps hc
        obtain ⟨l, h1, h⟩ := xlowHK_some h
        simp only [Option.bind_eq_some_iff] at h
        obtain ⟨r, hr, h⟩ := h
        have h := xAn_some h
        simp only [xif_some] at h
        exact ⟨c, f, rfl, hf, g, caps, l, r, hc, h1, hΦ _ _ _ hr, h.1, hK _ _ h.2⟩
      · cases h
    · cases h
  · cases h
omit hT hΦ in
theorem xcH_sound {o : Op} {ty : TypeId} (h : xcH T Ψ s o ty Ks = some res) (hK : ∀ r s', Ks r s' = some res → Kp r s') : ∃ c f, o = .call c ∧ c.callee = .value f ∧ ahcall P s f c.args.toList Kp := by
  unfold xcH at h
  split at h
  · rename_i c
    split at h
    · rename_i f hf
      split at h
      · rename_i g caps hc
        obtain ⟨l, h1, h⟩ := xhokK_some h
        simp only [Option.bind_eq_some_iff] at h
        obtain ⟨p, hp, h⟩ := h
        have h := xRn_some h
        exact ⟨c, f, rfl, hf, g, caps, l, p.1, p.2, hc, h1, hΨ _ _ _ _ hp, hK _ _ h⟩
      · cases h
    · cases h
  · cases h

omit hΦ hΨ in
theorem xhop_slice_P {t : TypeId} {y : Operand} {lo hi mx : Option Operand} (h : xhop T s (.slice t y lo hi mx) Ks = some res) (hK : ∀ r s', Ks r s' = some res → Kp r s') : aheapP P s (.slice t y lo hi mx) Kp := by
  unfold xhop at h
  simp only [] at h
  obtain ⟨e, ei, h1, _, h⟩ := xsl_some hT h
  simp only [Option.bind_eq_some_iff] at h
  obtain ⟨c, hc, n, hn, a, ha, b, hb, h⟩ := h
  cases mx with
  | none =>
    simp only [Option.bind_eq_some_iff] at h
    obtain ⟨r, hr, h⟩ := h
    exact ⟨e, c, n, a, b, r, h1, xone_some hc, hn, xobd_some ha, xobd_some hb, hr, hK _ _ h⟩
  | some m =>
    simp only [Option.bind_eq_some_iff, xif_some, Bool.and_eq_true, decide_eq_true_eq] at h
    obtain ⟨q, hq, ⟨k1, k2, k3, k4, k5⟩, h⟩ := h
    exact ⟨e, c, n, a, b, q, h1, xone_some hc, hn, xobd_some ha, k1, xobd_some hb, xobd_some hq, k2, k3, k4, k5, hK _ _ h⟩
omit hΦ hΨ in
theorem xsx_sound {o : Op} (h : xsx T s o Ks = some res) (hK : ∀ r s', Ks r s' = some res → Kp r s') : aheap P s o Kp ∧ ∀ c, o ≠ .call c := by
  unfold xsx at h
  split at h
  · rename_i t y lo hi
    obtain ⟨e, ei, h1, _, h⟩ := xsl_some hT h
    simp only [Option.bind_eq_some_iff] at h
    obtain ⟨c, hc, n, hn, a, ha, b, hb, r, hr, h⟩ := h
    exact ⟨⟨e, c, n, a, b, r, h1, xone_some hc, hn, xobd_some ha, xobd_some hb, hr, hK _ _ h⟩, fun c e => by cases e⟩
  · cases h

theorem hop_sound_d {sel : Op → Sel} {o : Op} {ty : TypeId} (h : hop T Φ Ψ sel s o ty Ks = some res) (hK : ∀ r s', Ks r s' = some res → Kp r s') : adop P (kdOf sel) s o Kp := by
  unfold hop at h
  cases hs : sel o with
  | st => simp only [hs] at h; exact xop_sound_d hT hΦ (by unfold kdOf; rw [hs]) h hK
  | hp =>
    simp only [hs] at h
    have h1 := xhop_sound hT h hK
    have hkd : kdOf sel o = if pheap o then .plain else .heap := by unfold kdOf; rw [hs]
    unfold adop
    cases hp : pheap o with
    | true =>
      rw [hkd, hp]
      simp only [if_true]
      cases o <;> simp only [pheap, Bool.false_eq_true] at hp
      case call c =>
        split at hp
        · rename_i hc
          have : aheapP P s (.call c) Kp := by unfold aheapP; simp only [hc]; exact h1
          simp only [hc]; exact .inr this
        · cases hp
      case slice t y lo hi mx => exact .inr (xhop_slice_P hT h hK)
      all_goals exact .inr h1
    | false =>
      rw [hkd, hp]
      simp only [Bool.false_eq_true, if_false]
      cases o with
      | call c =>
        simp only []
        split
        · rename_i f hf; unfold aheap at h1; simp only [hf] at h1
        · exact h1
      | _ => exact h1
  | dld =>
    simp only [hs] at h
    have hkd : kdOf sel o = .dld := by unfold kdOf; rw [hs]
    unfold adop; rw [hkd]
    exact xdld_sound hT h hK
  | nl =>
    simp only [hs] at h
    have hkd : kdOf sel o = .heap := by unfold kdOf; rw [hs]
    have h1 := xnilop_sound hT h hK
    unfold adop; rw [hkd]
    simp only []
    cases o with
    | call c => unfold xnilop at h; cases h
    | _ => exact h1
  | no => simp only [hs] at h; cases h
  | sx =>
    simp only [hs] at h
    have hkd : kdOf sel o = .heap := by unfold kdOf; rw [hs]
    obtain ⟨h1, h2⟩ := xsx_sound hT h hK
    unfold adop; rw [hkd]
    simp only []
    cases o with
    | call c => exact absurd rfl (h2 c)
    | _ => exact h1
  | cS =>
    simp only [hs] at h
    have hkd : kdOf sel o = .heap := by unfold kdOf; rw [hs]
    obtain ⟨c, f, rfl, hf, h1⟩ := xcS_sound hΦ h hK
    unfold adop; rw [hkd]
    simp only [hf]
    exact .inr (.inl h1)
  | cH =>
    simp only [hs] at h
    have hkd : kdOf sel o = .heap := by unfold kdOf; rw [hs]
    obtain ⟨c, f, rfl, hf, h1⟩ := xcH_sound hΨ h hK
    unfold adop; rw [hkd]
    simp only [hf]
    exact .inl h1

theorem hop_sound {sel : Op → Sel} {o : Op} {ty : TypeId} (h : hop T Φ Ψ sel s o ty Ks = some res) (hK : ∀ r s', Ks r s' = some res → Kp r s') : aop P s o Kp := aop_of_adop (hop_sound_d hT hΦ hΨ h hK)
end
end Go.Av
