/-
  Code, loops and functions, run; sound. Over any program. No toy.
-/
import Derived.Test.YtnfbgleaodkjpaaHvX4
set_option linter.all false
namespace Go.Av
open Go.RowKit

/-- What is kept of a cell at the head of a loop. -/
inductive SK where
  | int (k : IntKind) | bool | str | sl | dat | pp
  | app (k : Nat) (e : TypeId) | full
  | ref (id off : Nat) | clo (f : FuncId) (ids : List Nat) | fn (f : FuncId)
  | msl (id off sz : Nat)
  | rc | hcl (f : FuncId) | mp (id : Nat)

@[reducible] def SK.T : SK → Type
  | .int _ => Int | .bool => Bool | .str => List UInt8 | .sl => List (List D) | .dat => D | .pp => List D
  | .app _ _ => List (List D) | .full => List (List D)
  | .ref _ _ => Unit | .clo _ _ => Unit | .fn _ => Unit
  | .msl _ _ _ => Nat × Nat
  | .rc => C | .hcl _ => Nat | .mp _ => Unit

def SK.emb : (k : SK) → k.T → C
  | .int k, n => .d (.v (.int k n))
  | .bool, b => .d (.v (.bool b))
  | .str, l => .d (.s l)
  | .sl, l => .d (.sl l)
  | .dat, d => .d d
  | .pp, l => .d (.pp l)
  | .app k _, l => .app l k
  | .full, l => .full l
  | .ref id off, _ => .ref id off
  | .clo f ids, _ => .clo f ids
  | .fn f, _ => .d (.clo f [])
  | .msl id off sz, x => .msl id off x.1 x.2 sz
  | .rc, c => c
  | .hcl f, k => .hclo f [k]
  | .mp id, _ => .mp id

def SK.prj (tip : Nat → Option (TypeId × Nat)) : (k : SK) → C → Option k.T
  | .int k, c => (match c with | .d (.v (.int k' n)) => if k' = k then some n else none | _ => none)
  | .bool, c => (match c with | .d (.v (.bool b)) => some b | _ => none)
  | .str, c => (match c with | .d (.s l) => some l | _ => none)
  | .sl, c => (match c with | .d (.sl l) => some l | .full l => some l | .app l _ => some l | _ => none)
  | .dat, c => (match c with | .d d => some d | _ => none)
  | .pp, c => (match c with | .d (.pp l) => some l | _ => none)
  | .app k e, c => (match c with | .app l k' => (match tip k with | some (e', n) => if k' = k ∧ e' = e ∧ n = l.length then some l else none | none => none) | _ => none)
  | .full, c => (match c with | .full l => some l | _ => none)
  | .ref id off, c => (match c with | .ref id' off' => if id' = id ∧ off' = off then some () else none | _ => none)
  | .clo f ids, c => (match c with | .clo f' ids' => if f' = f ∧ ids' = ids then some () else none | _ => none)
  | .fn f, c => (match c with | .d (.clo f' []) => if f' = f then some () else none | _ => none)
  | .msl id off sz, c => (match c with | .msl id' off' len cap sz' => if id' = id ∧ off' = off ∧ sz' = sz then some (len, cap) else none | _ => none)
  | .rc, c => xif c.hok (some c)
  | .hcl f, c => (match c with | .hclo f' [k] => if f' = f then some k else none | _ => none)
  | .mp id, c => (match c with | .mp id' => if id' = id then some () else none | _ => none)

def SK.tips : (k : SK) → k.T → Nat → Option (TypeId × Nat)
  | .app k e, l, j => if j = k then some (e, l.length) else none
  | _, _, _ => none

def SK.ltB (n : Nat) : SK → Bool
  | .app k _ => decide (k < n)
  | .ref id _ => decide (id < n)
  | .clo _ ids => ids.all fun i => decide (i < n)
  | .msl id _ _ => decide (id < n)
  | .mp id => decide (id < n)
  | _ => true

theorem SK.prj_some {tip : Nat → Option (TypeId × Nat)} {k : SK} {c : C} {x : k.T} (h : k.prj tip c = some x) : Cw c (k.emb x) ∧ ∀ j y, k.tips x j = some y → tip j = some y := by
  cases k <;> simp only [SK.prj] at h
  case int k =>
    split at h
    · split at h
      · rename_i e; simp only [Option.some.injEq] at h; subst h; subst e; exact ⟨.inl rfl, fun _ _ h => by cases h⟩
      · cases h
    · cases h
  case app k e =>
    split at h
    · split at h
      · rename_i l k' o e' n ht
        split at h
        · rename_i hh
          obtain ⟨rfl, rfl, rfl⟩ := hh
          simp only [Option.some.injEq] at h
          subst h
          refine ⟨.inl rfl, fun j y hj => ?_⟩
          simp only [SK.tips] at hj
          split at hj
          · rename_i e; subst e; rw [ht]; exact hj
          · cases hj
        · cases h
      · cases h
    · cases h
  case ref id off =>
    split at h
    · split at h
      · rename_i hh; obtain ⟨rfl, rfl⟩ := hh; exact ⟨.inl rfl, fun _ _ h => by cases h⟩
      · cases h
    · cases h
  case clo f ids =>
    split at h
    · split at h
      · rename_i hh; obtain ⟨rfl, rfl⟩ := hh; exact ⟨.inl rfl, fun _ _ h => by cases h⟩
      · cases h
    · cases h
  case fn f =>
    split at h
    · split at h
      · rename_i hh; subst hh; exact ⟨.inl rfl, fun _ _ h => by cases h⟩
      · cases h
    · cases h
  case msl id off sz =>
    split at h
    · split at h
      · rename_i hh; obtain ⟨rfl, rfl, rfl⟩ := hh; simp only [Option.some.injEq] at h; subst h; exact ⟨.inl rfl, fun _ _ h => by cases h⟩
      · cases h
    · cases h
  case rc =>
    simp only [xif_some, Option.some.injEq] at h
    obtain ⟨h1, rfl⟩ := h
    exact ⟨.inl rfl, fun _ _ h => by cases h⟩
  case mp id =>
    split at h
    · split at h
      · rename_i hh; subst hh; exact ⟨.inl rfl, fun _ _ h => by cases h⟩
      · cases h
    · cases h
  case hcl f =>
    split at h
    · split at h
      · rename_i hh; subst hh; simp only [Option.some.injEq] at h; subst h; exact ⟨.inl rfl, fun _ _ h => by cases h⟩
      · cases h
    · cases h
  case sl =>
    split at h
    · simp only [Option.some.injEq] at h; subst h; exact ⟨.inl rfl, fun _ _ h => by cases h⟩
    · simp only [Option.some.injEq] at h; subst h; exact ⟨.inr ⟨_, rfl, rfl⟩, fun _ _ h => by cases h⟩
    · simp only [Option.some.injEq] at h; subst h; exact ⟨.inr ⟨_, rfl, rfl⟩, fun _ _ h => by cases h⟩
    · cases h
  all_goals
    split at h
    · simp only [Option.some.injEq] at h; subst h; exact ⟨.inl rfl, fun _ _ h => by cases h⟩
    · cases h

theorem SK.prj_lt {tip : Nat → Option (TypeId × Nat)} {k : SK} {c : C} {x : k.T} (hp : k.prj tip c = some x) {n : Nat} (h : k.ltB n = true) : (k.emb x).lt n := by
  cases k
  case rc =>
    simp only [SK.prj, xif_some, Option.some.injEq] at hp
    obtain ⟨h1, rfl⟩ := hp
    show C.lt n c
    cases c <;> first | exact trivial | cases h1
  all_goals
    simp only [SK.ltB, decide_eq_true_eq, List.all_eq_true] at h
    first | exact trivial | exact h

@[reducible] def SKs.T : List SK → Type
  | [] => Unit
  | k :: ks => k.T × SKs.T ks
def SKs.emb : (ks : List SK) → SKs.T ks → List C
  | [], _ => []
  | k :: ks, x => k.emb x.1 :: SKs.emb ks x.2
def SKs.prj (tip : Nat → Option (TypeId × Nat)) : (ks : List SK) → List C → Option (SKs.T ks)
  | [], [] => some ()
  | k :: ks, c :: cs => (k.prj tip c).bind fun x => (SKs.prj tip ks cs).bind fun y => some (x, y)
  | _, _ => none
def SKs.tips : (ks : List SK) → SKs.T ks → Nat → Option (TypeId × Nat)
  | [], _, _ => none
  | k :: ks, x, j => (k.tips x.1 j).or (SKs.tips ks x.2 j)
theorem SKs.prj_some {tip : Nat → Option (TypeId × Nat)} : ∀ {ks : List SK} {cs : List C} {x : SKs.T ks}, SKs.prj tip ks cs = some x → Csw cs (SKs.emb ks x) ∧ ∀ j y, SKs.tips ks x j = some y → tip j = some y
  | [], [], x, _ => ⟨.nil, fun _ _ h => by cases h⟩
  | k :: ks, c :: cs, x, h => by
    simp only [SKs.prj, Option.bind_eq_some_iff, Option.some.injEq] at h
    obtain ⟨x1, h1, x2, h2, rfl⟩ := h
    obtain ⟨a1, a2⟩ := SK.prj_some h1
    obtain ⟨b1, b2⟩ := SKs.prj_some h2
    refine ⟨.cons a1 b1, fun j y hj => ?_⟩
    simp only [SKs.tips, Option.or_eq_some_iff] at hj
    rcases hj with hj | ⟨_, hj⟩
    · exact a2 j y hj
    · exact b2 j y hj
  | [], _ :: _, _, h => by cases h
  | _ :: _, [], _, h => by cases h
theorem SKs.prj_lt {tip : Nat → Option (TypeId × Nat)} {n : Nat} : ∀ {ks : List SK} {cs : List C} {x : SKs.T ks}, SKs.prj tip ks cs = some x → ks.all (·.ltB n) = true → ∀ c ∈ SKs.emb ks x, c.lt n
  | [], [], x, _, _, c, hc => by cases hc
  | k :: ks, c0 :: cs, x, hp, h, c, hc => by
    simp only [SKs.prj, Option.bind_eq_some_iff, Option.some.injEq] at hp
    obtain ⟨x1, h1, x2, h2, rfl⟩ := hp
    simp only [List.all_cons, Bool.and_eq_true] at h
    simp only [SKs.emb, List.mem_cons] at hc
    rcases hc with rfl | hc
    · exact SK.prj_lt h1 h.1
    · exact SKs.prj_lt h2 h.2 c hc
  | [], _ :: _, _, h, _, _, _ => by cases h
  | _ :: _, [], _, h, _, _, _ => by cases h

/-- What is kept of a slot; of a box. -/
inductive VK where
  | one (k : SK) | agg (ks : List SK)
@[reducible] def VK.T : VK → Type | .one k => k.T | .agg ks => SKs.T ks
def VK.emb : (k : VK) → k.T → A | .one k, x => .one (k.emb x) | .agg ks, x => .agg (SKs.emb ks x)
def VK.prj (tip : Nat → Option (TypeId × Nat)) : (k : VK) → A → Option k.T
  | .one k, a => (match a with | .one c => k.prj tip c | _ => none)
  | .agg ks, a => (match a with | .agg cs => SKs.prj tip ks cs | _ => none)
def VK.tips : (k : VK) → k.T → Nat → Option (TypeId × Nat) | .one k, x => k.tips x | .agg ks, x => SKs.tips ks x
def VK.ltB (n : Nat) : VK → Bool | .one k => k.ltB n | .agg ks => ks.all (·.ltB n)
theorem VK.prj_some {tip : Nat → Option (TypeId × Nat)} {k : VK} {a : A} {x : k.T} (h : k.prj tip a = some x) : Aw a (k.emb x) ∧ ∀ j y, k.tips x j = some y → tip j = some y := by
  cases k with
  | one k =>
    simp only [VK.prj] at h
    split at h
    · obtain ⟨h1, h2⟩ := SK.prj_some h; exact ⟨.one h1, h2⟩
    · cases h
  | agg ks =>
    simp only [VK.prj] at h
    split at h
    · obtain ⟨h1, h2⟩ := SKs.prj_some h; exact ⟨.agg h1, h2⟩
    · cases h
theorem VK.prj_lt {tip : Nat → Option (TypeId × Nat)} {k : VK} {a : A} {x : k.T} (hp : k.prj tip a = some x) {n : Nat} (h : k.ltB n = true) : (k.emb x).lt n := by
  cases k with
  | one k =>
    simp only [VK.prj] at hp
    split at hp
    · exact SK.prj_lt hp h
    · cases hp
  | agg ks =>
    simp only [VK.prj] at hp
    split at hp
    · exact SKs.prj_lt hp h
    · cases hp

inductive BK where
  | lit (ks : List SK) | raw
@[reducible] def BK.T : BK → Type | .lit ks => SKs.T ks | .raw => List D
def BK.emb : (k : BK) → k.T → List C | .lit ks, x => SKs.emb ks x | .raw, ds => ds.map C.d
def BK.prj (tip : Nat → Option (TypeId × Nat)) : (k : BK) → List C → Option k.T | .lit ks, cs => SKs.prj tip ks cs | .raw, cs => xlows cs
def BK.tips : (k : BK) → k.T → Nat → Option (TypeId × Nat) | .lit ks, x => SKs.tips ks x | .raw, _ => fun _ => none
def BK.ltB (n : Nat) : BK → Bool | .lit ks => ks.all (·.ltB n) | .raw => true
theorem xlows_csw : ∀ {cs : List C} {ds : List D}, xlows cs = some ds → Csw cs (ds.map C.d)
  | [], _, h => by simp only [xlows, Option.some.injEq] at h; subst h; exact .nil
  | c :: cs, _, h => by
    simp only [xlows, Option.bind_eq_some_iff, Option.some.injEq] at h
    obtain ⟨d, hd, ds', h1, rfl⟩ := h
    exact .cons (.inr ⟨d, hd, rfl⟩) (xlows_csw h1)
theorem BK.prj_some {tip : Nat → Option (TypeId × Nat)} {k : BK} {cs : List C} {x : k.T} (h : k.prj tip cs = some x) : Csw cs (k.emb x) ∧ ∀ j y, k.tips x j = some y → tip j = some y := by
  cases k with
  | lit ks => exact SKs.prj_some h
  | raw => exact ⟨xlows_csw h, fun _ _ h => by cases h⟩
theorem BK.prj_lt {tip : Nat → Option (TypeId × Nat)} {k : BK} {cs : List C} {x : k.T} (hp : k.prj tip cs = some x) {n : Nat} (h : k.ltB n = true) : ∀ c ∈ k.emb x, c.lt n := by
  cases k with
  | lit ks => exact SKs.prj_lt hp h
  | raw =>
    intro c hc
    simp only [BK.emb, List.mem_map] at hc
    obtain ⟨d, _, rfl⟩ := hc
    exact trivial

/-- What is kept at the head of a loop: a slot, a box. -/
inductive LK where
  | slot (i : Nat) (k : VK) | box (id : Nat) (k : BK) | it (id : Nat) | hp | mp (id : Nat)
@[reducible] def LK.T : LK → Type | .slot _ k => k.T | .box _ k => k.T | .it _ => List UInt8 × Nat | .hp => Hp | .mp _ => List ((Int × Int) × List UInt8)

/-- What is kept at the head of a loop: names below n. First, the full slices that are to be appended to. -/
structure LSpec where
  n : Nat
  m : Nat
  toks : List (TypeId × Loc)
  ks : List LK

@[reducible] def XS.T : List LK → Type
  | [] => Unit
  | k :: ks => k.T × XS.T ks
@[reducible] def LSpec.X (l : LSpec) : Type := XS.T l.ks

def XS.t : (ks : List LK) → XS.T ks → Nat → A
  | [], _, _ => .any
  | .slot i k :: ks, x, j => if j = i then k.emb x.1 else XS.t ks x.2 j
  | .box _ _ :: ks, x, j => XS.t ks x.2 j
  | .it _ :: ks, x, j => XS.t ks x.2 j
  | .hp :: ks, x, j => XS.t ks x.2 j
  | .mp _ :: ks, x, j => XS.t ks x.2 j
def XS.h : (ks : List LK) → XS.T ks → Nat → Option (List C)
  | [], _, _ => none
  | .box i k :: ks, x, j => if j = i then some (k.emb x.1) else XS.h ks x.2 j
  | .slot _ _ :: ks, x, j => XS.h ks x.2 j
  | .it _ :: ks, x, j => XS.h ks x.2 j
  | .hp :: ks, x, j => XS.h ks x.2 j
  | .mp _ :: ks, x, j => XS.h ks x.2 j
def XS.o : (ks : List LK) → XS.T ks → Nat → Option Ob
  | [], _, _ => none
  | .it i :: ks, x, j => if j = i then some (.it x.1.1 x.1.2) else XS.o ks x.2 j
  | .box _ _ :: ks, x, j => XS.o ks x.2 j
  | .slot _ _ :: ks, x, j => XS.o ks x.2 j
  | .hp :: ks, x, j => XS.o ks x.2 j
  | .mp i :: ks, x, j => if j = i then some (.mp x.1) else XS.o ks x.2 j
def XS.tips : (ks : List LK) → XS.T ks → Nat → Option (TypeId × Nat)
  | [], _, _ => none
  | .box _ k :: ks, x, j => (k.tips x.1 j).or (XS.tips ks x.2 j)
  | .slot _ k :: ks, x, j => (k.tips x.1 j).or (XS.tips ks x.2 j)
  | .it _ :: ks, x, j => XS.tips ks x.2 j
  | .hp :: ks, x, j => XS.tips ks x.2 j
  | .mp _ :: ks, x, j => XS.tips ks x.2 j
def XS.prj (s : St) : (ks : List LK) → Option (XS.T ks)
  | [] => some ()
  | .box i k :: ks => (match s.h i with | some cs => (k.prj s.tip cs).bind fun x => (XS.prj s ks).bind fun y => some (x, y) | none => none)
  | .slot i k :: ks => (k.prj s.tip (s.t i)).bind fun x => (XS.prj s ks).bind fun y => some (x, y)
  | .it i :: ks => (match s.o i with | some (.it l p) => (XS.prj s ks).bind fun y => some ((l, p), y) | _ => none)
  | .hp :: ks => (XS.prj s ks).bind fun y => some (s.H, y)
  | .mp i :: ks => (match s.o i with | some (.mp es) => (XS.prj s ks).bind fun y => some (es, y) | _ => none)
/-- The blocks under counted names. -/
def XS.H : (ks : List LK) → XS.T ks → Hp
  | [], _ => []
  | .hp :: _, x => x.1
  | .box _ _ :: ks, x => XS.H ks x.2
  | .slot _ _ :: ks, x => XS.H ks x.2
  | .it _ :: ks, x => XS.H ks x.2
  | .mp _ :: ks, x => XS.H ks x.2
def XS.hasH : List LK → Bool
  | [] => false
  | .hp :: _ => true
  | _ :: ks => XS.hasH ks

def LK.ltB (n : Nat) : LK → Bool | .slot _ k => k.ltB n | .box i k => decide (i < n) && k.ltB n | .it i => decide (i < n) | .hp => true | .mp i => decide (i < n)
def LSpec.inj (l : LSpec) (x : l.X) : St := { t := XS.t l.ks x, m := l.m, n := l.n, h := XS.h l.ks x, tip := XS.tips l.ks x, o := XS.o l.ks x, H := XS.H l.ks x }
/-- Bounds that hold whatever is kept. -/
def LSpec.okB (l : LSpec) (b : Nat) : Bool := decide (b ≤ l.n) && (l.ks.all fun k => k.ltB l.n)
def LSpec.ext (l : LSpec) (s : St) : Option l.X := xif (decide (s.m = l.m) && (decide (l.n ≤ s.n) && (XS.hasH l.ks || s.H.isEmpty))) (XS.prj s l.ks)

theorem XS.prj_t {s : St} : ∀ {ks : List LK} {x : XS.T ks}, XS.prj s ks = some x → ∀ j, (Aw (s.t j) (XS.t ks x j) ∧ ∀ n, (ks.all fun k => k.ltB n) = true → (XS.t ks x j).lt n) ∨ XS.t ks x j = .any
  | [], x, _, j => .inr rfl
  | .slot i k :: ks, x, h, j => by
    simp only [XS.prj, Option.bind_eq_some_iff, Option.some.injEq] at h
    obtain ⟨x1, h1, x2, h2, rfl⟩ := h
    simp only [XS.t]
    split
    · rename_i e; subst e
      refine .inl ⟨(VK.prj_some h1).1, fun n hn => ?_⟩
      simp only [List.all_cons, Bool.and_eq_true] at hn
      exact VK.prj_lt h1 hn.1
    · exact (XS.prj_t h2 j).imp (fun ⟨a, b⟩ => ⟨a, fun n hn => b n (by simp only [List.all_cons, Bool.and_eq_true] at hn; exact hn.2)⟩) id
  | .box i k :: ks, x, h, j => by
    simp only [XS.prj] at h
    split at h
    · rename_i cs' hcs
      simp only [Option.bind_eq_some_iff, Option.some.injEq] at h
      obtain ⟨x1, h1, x2, h2, rfl⟩ := h
      exact (XS.prj_t (ks := ks) h2 j).imp (fun ⟨a, b⟩ => ⟨a, fun n hn => b n (by simp only [List.all_cons, Bool.and_eq_true] at hn; exact hn.2)⟩) id
    · cases h
  | .it i :: ks, x, h, j => by
    simp only [XS.prj] at h
    split at h
    · rename_i l p ho
      simp only [Option.bind_eq_some_iff, Option.some.injEq] at h
      obtain ⟨x2, h2, rfl⟩ := h
      exact (XS.prj_t (ks := ks) h2 j).imp (fun ⟨a, b⟩ => ⟨a, fun n hn => b n (by simp only [List.all_cons, Bool.and_eq_true] at hn; exact hn.2)⟩) id
    · cases h
  | .mp i :: ks, x, h, j => by
    simp only [XS.prj] at h
    split at h
    · rename_i es ho
      simp only [Option.bind_eq_some_iff, Option.some.injEq] at h
      obtain ⟨x2, h2, rfl⟩ := h
      exact (XS.prj_t (ks := ks) h2 j).imp (fun ⟨a, b⟩ => ⟨a, fun n hn => b n (by simp only [List.all_cons, Bool.and_eq_true] at hn; exact hn.2)⟩) id
    · cases h
  | .hp :: ks, x, h, j => by
    simp only [XS.prj, Option.bind_eq_some_iff, Option.some.injEq] at h
    obtain ⟨x2, h2, rfl⟩ := h
    exact (XS.prj_t (ks := ks) h2 j).imp (fun ⟨a, b⟩ => ⟨a, fun n hn => b n (by simp only [List.all_cons, Bool.and_eq_true] at hn; exact hn.2)⟩) id
theorem XS.prj_h {s : St} : ∀ {ks : List LK} {x : XS.T ks}, XS.prj s ks = some x → ∀ j cs, XS.h ks x j = some cs → (∃ cs0, s.h j = some cs0 ∧ Csw cs0 cs) ∧ ∀ n, (ks.all fun k => k.ltB n) = true → j < n ∧ ∀ c ∈ cs, c.lt n
  | [], x, _, j, cs, hj => by cases hj
  | .box i k :: ks, x, h, j, cs, hj => by
    simp only [XS.prj] at h
    split at h
    · rename_i cs' hcs
      simp only [Option.bind_eq_some_iff, Option.some.injEq] at h
      obtain ⟨x1, h1, x2, h2, rfl⟩ := h
      simp only [XS.h] at hj
      split at hj
      · rename_i e
        subst e
        simp only [Option.some.injEq] at hj
        subst hj
        refine ⟨⟨_, hcs, (BK.prj_some h1).1⟩, fun n hn => ?_⟩
        simp only [List.all_cons, Bool.and_eq_true, LK.ltB, decide_eq_true_eq] at hn
        exact ⟨hn.1.1, BK.prj_lt h1 hn.1.2⟩
      · exact (XS.prj_h h2 j cs hj).imp id fun b n hn => b n (by simp only [List.all_cons, Bool.and_eq_true] at hn; exact hn.2)
    · cases h
  | .slot i k :: ks, x, h, j, cs, hj => by
    simp only [XS.prj, Option.bind_eq_some_iff, Option.some.injEq] at h
    obtain ⟨x1, h1, x2, h2, rfl⟩ := h
    simp only [XS.h] at hj
    exact (XS.prj_h h2 j cs hj).imp id fun b n hn => b n (by simp only [List.all_cons, Bool.and_eq_true] at hn; exact hn.2)
  | .it i :: ks, x, h, j, cs, hj => by
    simp only [XS.prj] at h
    split at h
    · rename_i l p ho
      simp only [Option.bind_eq_some_iff, Option.some.injEq] at h
      obtain ⟨x2, h2, rfl⟩ := h
      simp only [XS.h] at hj
      exact (XS.prj_h h2 j cs hj).imp id fun b n hn => b n (by simp only [List.all_cons, Bool.and_eq_true] at hn; exact hn.2)
    · cases h
  | .mp i :: ks, x, h, j, cs, hj => by
    simp only [XS.prj] at h
    split at h
    · rename_i es ho
      simp only [Option.bind_eq_some_iff, Option.some.injEq] at h
      obtain ⟨x2, h2, rfl⟩ := h
      simp only [XS.h] at hj
      exact (XS.prj_h h2 j cs hj).imp id fun b n hn => b n (by simp only [List.all_cons, Bool.and_eq_true] at hn; exact hn.2)
    · cases h
  | .hp :: ks, x, h, j, cs, hj => by
    simp only [XS.prj, Option.bind_eq_some_iff, Option.some.injEq] at h
    obtain ⟨x2, h2, rfl⟩ := h
    simp only [XS.h] at hj
    exact (XS.prj_h h2 j cs hj).imp id fun b n hn => b n (by simp only [List.all_cons, Bool.and_eq_true] at hn; exact hn.2)
theorem XS.prj_o {s : St} : ∀ {ks : List LK} {x : XS.T ks}, XS.prj s ks = some x → ∀ j y, XS.o ks x j = some y → s.o j = some y
  | [], x, _, j, y, hj => by cases hj
  | .box i k :: ks, x, h, j, y, hj => by
    simp only [XS.prj] at h
    split at h
    · rename_i cs' hcs
      simp only [Option.bind_eq_some_iff, Option.some.injEq] at h
      obtain ⟨x1, h1, x2, h2, rfl⟩ := h
      simp only [XS.o] at hj
      exact XS.prj_o h2 j y hj
    · cases h
  | .slot i k :: ks, x, h, j, y, hj => by
    simp only [XS.prj, Option.bind_eq_some_iff, Option.some.injEq] at h
    obtain ⟨x1, h1, x2, h2, rfl⟩ := h
    simp only [XS.o] at hj
    exact XS.prj_o h2 j y hj
  | .it i :: ks, x, h, j, y, hj => by
    simp only [XS.prj] at h
    split at h
    · rename_i l p ho
      simp only [Option.bind_eq_some_iff, Option.some.injEq] at h
      obtain ⟨x2, h2, rfl⟩ := h
      simp only [XS.o] at hj
      split at hj
      · rename_i e; subst e; rw [ho]; exact hj
      · exact XS.prj_o h2 j y hj
    · cases h
  | .mp i :: ks, x, h, j, y, hj => by
    simp only [XS.prj] at h
    split at h
    · rename_i es ho
      simp only [Option.bind_eq_some_iff, Option.some.injEq] at h
      obtain ⟨x2, h2, rfl⟩ := h
      simp only [XS.o] at hj
      split at hj
      · rename_i e; subst e; rw [ho]; exact hj
      · exact XS.prj_o h2 j y hj
    · cases h
  | .hp :: ks, x, h, j, y, hj => by
    simp only [XS.prj, Option.bind_eq_some_iff, Option.some.injEq] at h
    obtain ⟨x2, h2, rfl⟩ := h
    simp only [XS.o] at hj
    exact XS.prj_o h2 j y hj
theorem XS.o_lt {n : Nat} : ∀ {ks : List LK}, (ks.all fun k => k.ltB n) = true → ∀ (x : XS.T ks) (j : Nat) (y : Ob), XS.o ks x j = some y → j < n
  | [], _, x, j, y, hj => by cases hj
  | .box i k :: ks, h, x, j, y, hj => by
    simp only [List.all_cons, Bool.and_eq_true] at h
    simp only [XS.o] at hj
    exact XS.o_lt h.2 _ j y hj
  | .slot i k :: ks, h, x, j, y, hj => by
    simp only [List.all_cons, Bool.and_eq_true] at h
    simp only [XS.o] at hj
    exact XS.o_lt h.2 _ j y hj
  | .hp :: ks, h, x, j, y, hj => by
    simp only [List.all_cons, Bool.and_eq_true] at h
    simp only [XS.o] at hj
    exact XS.o_lt h.2 _ j y hj
  | .it i :: ks, h, x, j, y, hj => by
    simp only [List.all_cons, Bool.and_eq_true, LK.ltB, decide_eq_true_eq] at h
    simp only [XS.o] at hj
    split at hj
    · rename_i e; subst e; exact h.1
    · exact XS.o_lt h.2 _ j y hj
  | .mp i :: ks, h, x, j, y, hj => by
    simp only [List.all_cons, Bool.and_eq_true, LK.ltB, decide_eq_true_eq] at h
    simp only [XS.o] at hj
    split at hj
    · rename_i e; subst e; exact h.1
    · exact XS.o_lt h.2 _ j y hj
theorem XS.prj_tips {s : St} : ∀ {ks : List LK} {x : XS.T ks}, XS.prj s ks = some x → ∀ j y, XS.tips ks x j = some y → s.tip j = some y
  | [], x, _, j, y, hj => by cases hj
  | .box i k :: ks, x, h, j, y, hj => by
    simp only [XS.prj] at h
    split at h
    · rename_i cs' hcs
      simp only [Option.bind_eq_some_iff, Option.some.injEq] at h
      obtain ⟨x1, h1, x2, h2, rfl⟩ := h
      simp only [XS.tips, Option.or_eq_some_iff] at hj
      rcases hj with hj | ⟨_, hj⟩
      · exact (BK.prj_some h1).2 j y hj
      · exact XS.prj_tips h2 j y hj
    · cases h
  | .slot i k :: ks, x, h, j, y, hj => by
    simp only [XS.prj, Option.bind_eq_some_iff, Option.some.injEq] at h
    obtain ⟨x1, h1, x2, h2, rfl⟩ := h
    simp only [XS.tips, Option.or_eq_some_iff] at hj
    rcases hj with hj | ⟨_, hj⟩
    · exact (VK.prj_some h1).2 j y hj
    · exact XS.prj_tips h2 j y hj
  | .it i :: ks, x, h, j, y, hj => by
    simp only [XS.prj] at h
    split at h
    · rename_i l p ho
      simp only [Option.bind_eq_some_iff, Option.some.injEq] at h
      obtain ⟨x2, h2, rfl⟩ := h
      simp only [XS.tips] at hj
      exact XS.prj_tips h2 j y hj
    · cases h
  | .mp i :: ks, x, h, j, y, hj => by
    simp only [XS.prj] at h
    split at h
    · rename_i es ho
      simp only [Option.bind_eq_some_iff, Option.some.injEq] at h
      obtain ⟨x2, h2, rfl⟩ := h
      simp only [XS.tips] at hj
      exact XS.prj_tips h2 j y hj
    · cases h
  | .hp :: ks, x, h, j, y, hj => by
    simp only [XS.prj, Option.bind_eq_some_iff, Option.some.injEq] at h
    obtain ⟨x2, h2, rfl⟩ := h
    simp only [XS.tips] at hj
    exact XS.prj_tips h2 j y hj
theorem SK.tips_lt {n : Nat} (k : SK) (x : k.T) (j : Nat) (y : TypeId × Nat) (hl : k.ltB n = true) (hj : k.tips x j = some y) : j < n := by
  cases k with
  | app k e =>
    simp only [SK.tips] at hj
    split at hj
    · rename_i e; subst e; simpa [SK.ltB] using hl
    · cases hj
  | _ => cases hj
theorem SKs.tips_lt {n : Nat} : ∀ (ks : List SK) (x : SKs.T ks) (j : Nat) (y : TypeId × Nat), ks.all (·.ltB n) = true → SKs.tips ks x j = some y → j < n := by
  intro ks
  induction ks with
  | nil => intro x j y _ hj; cases hj
  | cons k ks ih =>
    intro x j y hl hj
    simp only [List.all_cons, Bool.and_eq_true] at hl
    simp only [SKs.tips, Option.or_eq_some_iff] at hj
    rcases hj with hj | ⟨_, hj⟩
    · exact SK.tips_lt k _ j y hl.1 hj
    · exact ih _ j y hl.2 hj
theorem XS.tips_lt {n : Nat} : ∀ {ks : List LK}, (ks.all fun k => k.ltB n) = true → ∀ (x : XS.T ks) (j : Nat) (y : TypeId × Nat), XS.tips ks x j = some y → j < n
  | [], _, x, j, y, hj => by cases hj
  | .box i k :: ks, h, x, j, y, hj => by
    simp only [List.all_cons, Bool.and_eq_true, LK.ltB, decide_eq_true_eq] at h
    simp only [XS.tips, Option.or_eq_some_iff] at hj
    rcases hj with hj | ⟨_, hj⟩
    · cases k with
      | lit ks => exact SKs.tips_lt ks _ j y h.1.2 hj
      | raw => cases hj
    · exact XS.tips_lt h.2 _ j y hj
  | .slot i k :: ks, h, x, j, y, hj => by
    simp only [List.all_cons, Bool.and_eq_true, LK.ltB] at h
    simp only [XS.tips, Option.or_eq_some_iff] at hj
    rcases hj with hj | ⟨_, hj⟩
    · cases k with
      | one k => exact SK.tips_lt k _ j y h.1 hj
      | agg ks => exact SKs.tips_lt ks _ j y h.1 hj
    · exact XS.tips_lt h.2 _ j y hj
  | .it i :: ks, h, x, j, y, hj => by
    simp only [List.all_cons, Bool.and_eq_true] at h
    simp only [XS.tips] at hj
    exact XS.tips_lt h.2 _ j y hj
  | .mp i :: ks, h, x, j, y, hj => by
    simp only [List.all_cons, Bool.and_eq_true] at h
    simp only [XS.tips] at hj
    exact XS.tips_lt h.2 _ j y hj
  | .hp :: ks, h, x, j, y, hj => by
    simp only [List.all_cons, Bool.and_eq_true] at h
    simp only [XS.tips] at hj
    exact XS.tips_lt h.2 _ j y hj
theorem XS.prj_H {s : St} : ∀ {ks : List LK} {x : XS.T ks}, XS.prj s ks = some x → (XS.hasH ks || s.H.isEmpty) = true → XS.H ks x = s.H
  | [], x, _, hh => by simp only [XS.hasH, Bool.false_or, List.isEmpty_iff] at hh; rw [hh]; rfl
  | .hp :: ks, x, h, _ => by
    simp only [XS.prj, Option.bind_eq_some_iff, Option.some.injEq] at h
    obtain ⟨x2, h2, rfl⟩ := h
    rfl
  | .box i k :: ks, x, h, hh => by
    simp only [XS.prj] at h
    split at h
    · rename_i cs' hcs
      simp only [Option.bind_eq_some_iff, Option.some.injEq] at h
      obtain ⟨x1, h1, x2, h2, rfl⟩ := h
      exact XS.prj_H (ks := ks) h2 hh
    · cases h
  | .slot i k :: ks, x, h, hh => by
    simp only [XS.prj, Option.bind_eq_some_iff, Option.some.injEq] at h
    obtain ⟨x1, h1, x2, h2, rfl⟩ := h
    exact XS.prj_H (ks := ks) h2 hh
  | .it i :: ks, x, h, hh => by
    simp only [XS.prj] at h
    split at h
    · rename_i l p ho
      simp only [Option.bind_eq_some_iff, Option.some.injEq] at h
      obtain ⟨x2, h2, rfl⟩ := h
      exact XS.prj_H (ks := ks) h2 hh
    · cases h
  | .mp i :: ks, x, h, hh => by
    simp only [XS.prj] at h
    split at h
    · rename_i es ho
      simp only [Option.bind_eq_some_iff, Option.some.injEq] at h
      obtain ⟨x2, h2, rfl⟩ := h
      exact XS.prj_H (ks := ks) h2 hh
    · cases h
theorem LSpec.weak {l : LSpec} {b : Nat} (hb : l.okB b = true) {s : St} {x : l.X} (h : l.ext s = some x) : Wk s (l.inj x) ∧ b ≤ (l.inj x).n := by
  simp only [LSpec.okB, Bool.and_eq_true, decide_eq_true_eq] at hb
  rw [LSpec.ext, xif_some, Bool.and_eq_true, Bool.and_eq_true, decide_eq_true_eq, decide_eq_true_eq] at h
  obtain ⟨b1, b2⟩ := hb
  obtain ⟨⟨h1, h2, h0⟩, h3⟩ := h
  refine ⟨⟨h1.symm, h2, fun i => ?_, fun id cs hi => ?_, fun k y hk => ?_, fun k y hk => ?_, XS.prj_H h3 h0⟩, b1⟩
  · exact (XS.prj_t h3 i).imp (fun ⟨a, b⟩ => ⟨a, b _ b2⟩) id
  · obtain ⟨⟨cs0, g1, g2⟩, g3⟩ := XS.prj_h h3 id cs hi
    exact ⟨cs0, g1, g2, (g3 _ b2).1, (g3 _ b2).2⟩
  · exact ⟨XS.prj_tips h3 k y hk, XS.tips_lt b2 x k y hk⟩
  · exact ⟨XS.prj_o h3 k y hk, XS.o_lt b2 x k y hk⟩

/-! The same, with what comes next. -/
section
variable {R : Type}
def SK.prjK (tip : Nat → Option (TypeId × Nat)) : (k : SK) → C → (k.T → Option R) → Option R
  | .app k e, c, K => (match c with
    | .app l k' => (match tip k with | some (e', n) => xif (decide (k' = k) && decide (e' = e)) (xif (decide (n = l.length)) (K l)) | none => none)
    | _ => none)
  | .rc, c, K => xif c.hok (K c)
  | .mp id, c, K => (match c with | .mp id' => xif (decide (id' = id)) (K ()) | _ => none)
  | .hcl f, c, K => (match c with | .hclo f' [k] => xif (decide (f' = f)) (K k) | _ => none)
  | k, c, K => (k.prj tip c).bind K
def SKs.prjK (tip : Nat → Option (TypeId × Nat)) : (ks : List SK) → List C → (SKs.T ks → Option R) → Option R
  | [], [], K => K ()
  | k :: ks, c :: cs, K => k.prjK tip c fun x => SKs.prjK tip ks cs fun y => K (x, y)
  | _, _, _ => none
def VK.prjK (tip : Nat → Option (TypeId × Nat)) : (k : VK) → A → (k.T → Option R) → Option R
  | .one k, a, K => (match a with | .one c => k.prjK tip c K | _ => none)
  | .agg ks, a, K => (match a with | .agg cs => SKs.prjK tip ks cs K | _ => none)
def BK.prjK (tip : Nat → Option (TypeId × Nat)) : (k : BK) → List C → (k.T → Option R) → Option R
  | .lit ks, cs, K => SKs.prjK tip ks cs K
  | .raw, cs, K => (xlows cs).bind K
def XS.prjK (s : St) : (ks : List LK) → (XS.T ks → Option R) → Option R
  | [], K => K ()
  | .box i k :: ks, K => (match s.h i with | some cs => k.prjK s.tip cs fun x => XS.prjK s ks fun y => K (x, y) | none => none)
  | .slot i k :: ks, K => k.prjK s.tip (s.t i) fun x => XS.prjK s ks fun y => K (x, y)
  | .it i :: ks, K => (match s.o i with | some (.it l p) => XS.prjK s ks fun y => K ((l, p), y) | _ => none)
  | .hp :: ks, K => XS.prjK s ks fun y => K (s.H, y)
  | .mp i :: ks, K => (match s.o i with | some (.mp es) => XS.prjK s ks fun y => K (es, y) | _ => none)
def LSpec.extK (l : LSpec) (s : St) (K : l.X → Option R) : Option R := xif (decide (s.m = l.m) && (decide (l.n ≤ s.n) && (XS.hasH l.ks || s.H.isEmpty))) (XS.prjK s l.ks K)

theorem SK.prjK_some {tip : Nat → Option (TypeId × Nat)} {k : SK} {c : C} {K : k.T → Option R} {r : R} (h : k.prjK tip c K = some r) : ∃ x, k.prj tip c = some x ∧ K x = some r := by
  cases k
  case app k e =>
    simp only [SK.prjK] at h
    split at h
    · rename_i l k'
      split at h
      · rename_i e' n ht
        simp only [xif_some, Bool.and_eq_true, decide_eq_true_eq] at h
        obtain ⟨⟨h1, h2⟩, h3, h4⟩ := h
        exact ⟨l, by simp only [SK.prj, ht]; rw [if_pos ⟨h1, h2, h3⟩], h4⟩
      · cases h
    · cases h
  case rc =>
    simp only [SK.prjK, xif_some] at h
    exact ⟨c, by simp only [SK.prj, xif_some]; exact ⟨h.1, trivial⟩, h.2⟩
  case mp id =>
    simp only [SK.prjK] at h
    split at h
    · rename_i id'
      simp only [xif_some, decide_eq_true_eq] at h
      exact ⟨(), by simp only [SK.prj]; rw [if_pos h.1], h.2⟩
    · cases h
  case hcl f =>
    simp only [SK.prjK] at h
    split at h
    · rename_i f' k
      simp only [xif_some, decide_eq_true_eq] at h
      exact ⟨k, by simp only [SK.prj]; rw [if_pos h.1], h.2⟩
    · cases h
  all_goals
    simp only [SK.prjK, Option.bind_eq_some_iff] at h
    exact h
theorem SKs.prjK_some {tip : Nat → Option (TypeId × Nat)} : ∀ {ks : List SK} {cs : List C} {K : SKs.T ks → Option R} {r : R}, SKs.prjK tip ks cs K = some r → ∃ x, SKs.prj tip ks cs = some x ∧ K x = some r
  | [], [], K, r, h => ⟨(), rfl, h⟩
  | k :: ks, c :: cs, K, r, h => by
    obtain ⟨x, h1, h2⟩ := SK.prjK_some (K := fun x => SKs.prjK tip ks cs fun y => K (x, y)) h
    obtain ⟨y, h3, h4⟩ := SKs.prjK_some h2
    exact ⟨(x, y), by simp only [SKs.prj, h1, h3, Option.bind_some], h4⟩
  | [], _ :: _, _, _, h => by cases h
  | _ :: _, [], _, _, h => by cases h
theorem VK.prjK_some {tip : Nat → Option (TypeId × Nat)} {k : VK} {a : A} {K : k.T → Option R} {r : R} (h : k.prjK tip a K = some r) : ∃ x, k.prj tip a = some x ∧ K x = some r := by
  cases k with
  | one k =>
    simp only [VK.prjK] at h
    split at h
    · exact SK.prjK_some h
    · cases h
  | agg ks =>
    simp only [VK.prjK] at h
    split at h
    · exact SKs.prjK_some h
    · cases h
theorem BK.prjK_some {tip : Nat → Option (TypeId × Nat)} {k : BK} {cs : List C} {K : k.T → Option R} {r : R} (h : k.prjK tip cs K = some r) : ∃ x, k.prj tip cs = some x ∧ K x = some r := by
  cases k with
  | lit ks => exact SKs.prjK_some h
  | raw => simp only [BK.prjK, Option.bind_eq_some_iff] at h; exact h
theorem XS.prjK_some {s : St} : ∀ {ks : List LK} {K : XS.T ks → Option R} {r : R}, XS.prjK s ks K = some r → ∃ x, XS.prj s ks = some x ∧ K x = some r
  | [], K, r, h => ⟨(), rfl, h⟩
  | .box i k :: ks, K, r, h => by
    simp only [XS.prjK] at h
    split at h
    · rename_i cs hcs
      obtain ⟨x, h1, h2⟩ := BK.prjK_some h
      obtain ⟨y, h3, h4⟩ := XS.prjK_some h2
      exact ⟨(x, y), by simp only [XS.prj, hcs, h1, h3, Option.bind_some], h4⟩
    · cases h
  | .slot i k :: ks, K, r, h => by
    simp only [XS.prjK] at h
    obtain ⟨x, h1, h2⟩ := VK.prjK_some h
    obtain ⟨y, h3, h4⟩ := XS.prjK_some h2
    exact ⟨(x, y), by simp only [XS.prj, h1, h3, Option.bind_some], h4⟩
  | .it i :: ks, K, r, h => by
    simp only [XS.prjK] at h
    split at h
    · rename_i l p ho
      obtain ⟨y, h3, h4⟩ := XS.prjK_some h
      exact ⟨((l, p), y), by simp only [XS.prj, ho, h3, Option.bind_some], h4⟩
    · cases h
  | .mp i :: ks, K, r, h => by
    simp only [XS.prjK] at h
    split at h
    · rename_i es ho
      obtain ⟨y, h3, h4⟩ := XS.prjK_some h
      exact ⟨(es, y), by simp only [XS.prj, ho, h3, Option.bind_some], h4⟩
    · cases h
  | .hp :: ks, K, r, h => by
    simp only [XS.prjK] at h
    obtain ⟨y, h3, h4⟩ := XS.prjK_some h
    exact ⟨(s.H, y), by simp only [XS.prj, h3, Option.bind_some], h4⟩
theorem LSpec.extK_some {l : LSpec} {s : St} {K : l.X → Option R} {r : R} (h : l.extK s K = some r) : ∃ x, l.ext s = some x ∧ K x = some r := by
  rw [LSpec.extK, xif_some] at h
  obtain ⟨x, h1, h2⟩ := XS.prjK_some h.2
  exact ⟨x, by rw [LSpec.ext, xif_some]; exact ⟨h.1, h1⟩, h2⟩
end

def St.toksAt (s : St) : List (TypeId × Loc) → Option St
  | [] => some s
  | (e, l) :: ls => (s.tokAt e l).bind fun s' => s'.toksAt ls
theorem RepSt.toksAt {P : Program} {x : Ent} {a : Act} {w : World} : ∀ {ls : List (TypeId × Loc)} {s s' : St}, RepSt P x s a w → s.toksAt ls = some s' → RepSt P x s' a w ∧ s'.m = s.m
  | [], s, s', h, hs => by simp only [St.toksAt, Option.some.injEq] at hs; subst hs; exact ⟨h, rfl⟩
  | (e, l) :: ls, s, s', h, hs => by
    simp only [St.toksAt, Option.bind_eq_some_iff] at hs
    obtain ⟨s1, h1, h2⟩ := hs
    obtain ⟨g1, g2⟩ := h.tokAt h1
    obtain ⟨g3, g4⟩ := RepSt.toksAt g1 h2
    exact ⟨g3, g4.trans g2⟩

/-- Rounds, as many as there is fuel for. -/
def iter {X R : Type} (F : X → (X → Option R) → Option R) : Nat → X → Option R
  | 0, _ => none
  | n + 1, x => F x (iter F n)

section
variable {R : Type} (X : St → Op → TypeId → (A → St → Option R) → Option R)

def xops (ops : List Oper) : List Oper → (St → Option R) → St → Option R
  | [], K, s => K s
  | o :: rest, K, s => match o.guard with
    | none => (match o.dst with
      | some d => xif (decide (d < s.m)) (X s o.op o.type fun r s' => xops ops rest K (s'.set d r))
      | none => X s o.op o.type fun _ s' => xops ops rest K s')
    | some (j, want) => (match o.dst, (ops[j]?).bind (·.dst) with
      | some d, some g => xif (decide (d < s.m)) (match s.t g with
        | .one (.d (.v (.bool b))) => (match want with
          | true => xite b (X (s.set g (.one (.d (.v (.bool true))))) o.op o.type fun r s' => xops ops rest K (s'.set d r))
              (xops ops rest K ((s.set g (.one (.d (.v (.bool false))))).set d (.tup [])))
          | false => xite b (xops ops rest K ((s.set g (.one (.d (.v (.bool true))))).set d (.tup [])))
              (X (s.set g (.one (.d (.v (.bool false))))) o.op o.type fun r s' => xops ops rest K (s'.set d r)))
        | .tup [] => xops ops rest K (s.set d (.tup []))
        | _ => none)
      | _, _ => none)

def xord (all : List Oper) : List Nat → (St → Option R) → St → Option R
  | [], K, s => K s
  | i :: rest, K, s => match all[i]? with
    | none => none
    | some o => (match o.guard with
      | none => (match o.dst with
        | some d => X s o.op o.type fun r s' => xord all rest K (s'.set d r)
        | none => X s o.op o.type fun _ s' => xord all rest K s')
      | some (j, want) => (match o.dst, (all[j]?).bind (·.dst) with
        | some d, some g => (match s.t g with
          | .one (.d (.v (.bool b))) => (match want with
            | true => xite b (X (s.set g (.one (.d (.v (.bool true))))) o.op o.type fun r s' => xord all rest K (s'.set d r))
                (xord all rest K ((s.set g (.one (.d (.v (.bool false))))).set d (.tup [])))
            | false => xite b (xord all rest K ((s.set g (.one (.d (.v (.bool true))))).set d (.tup [])))
                (X (s.set g (.one (.d (.v (.bool false))))) o.op o.type fun r s' => xord all rest K (s'.set d r)))
          | .tup [] => xord all rest K (s.set d (.tup []))
          | _ => none)
        | _, _ => none))
end

/-- An order in which a region whose order is open may be walked. -/
def pureOrd (kd : Op → OKd) (ops : Array Oper) : Nat → Array Bool → List Nat × Array Bool
  | 0, listed => ([], listed)
  | n + 1, listed => match (Region.ready .any ops listed).find? (freeA kd .any ops listed) with
    | some i => (match pureOrd kd ops n (listed.setIfInBounds i true) with | (l, r) => (i :: l, r))
    | none => (match Region.ready .any ops listed with
      | [_] => ([], listed)
      | l => (match l.find? (freeN kd .any ops listed) with
        | some i => (match pureOrd kd ops n (listed.setIfInBounds i true) with | (l, r) => (i :: l, r))
        | none => ([], listed)))
def tailOrd (ops : Array Oper) : Nat → Array Bool → List Nat
  | 0, _ => []
  | n + 1, listed => match Region.ready .any ops listed with
    | i :: _ => i :: tailOrd ops n (listed.setIfInBounds i true)
    | [] => []
def regOrd (kd : Op → OKd) (ops : Array Oper) : Option (List Nat) :=
  match pureOrd kd ops ops.size (Array.replicate ops.size false) with
  | (l, r) => match tailOrd ops ops.size r with
    | t => if (ordB kd ops l t (Array.replicate ops.size false) && (l.length + t.length == ops.size)) = true then some (l ++ t) else none

section
variable {R : Type} (X : St → Op → TypeId → (A → St → Option R) → Option R) (kd : Op → OKd)

def loops : Code → Nat
  | .seq a b => loops a + loops b
  | .cond _ a b => loops a + loops b
  | .block _ c => loops c
  | .scope c => loops c
  | .loop c => loops c + 1
  | _ => 0

def qex (id : Nat) (K : Exit → St → Option R) : Exit → St → Option R
  | .exit id', s => if id' = id then K .normal s else K (.exit id') s
  | e, s => K e s

/-- A round of a loop, then what comes next. -/
def qround (l : LSpec) (rec : l.X → Option R) (K : Exit → St → Option R) : Exit → St → Option R
  | .normal, s => l.extK s rec
  | e, s => K e s
def qseq (k : St → Option R) (K : Exit → St → Option R) : Exit → St → Option R
  | .normal, s => k s
  | e, s => K e s

def xcode (fuel b : Nat) : Code → List LSpec → (Exit → St → Option R) → St → Option R
  | .skip, _, K, s => K .normal s
  | .region _ ops draw, _, K, s => (match draw with
    | false => xops X ops.toList ops.toList (K .normal) s
    | true => (match regOrd kd ops with
      | some l => xif (ops.toList.all fun o => match o.dst with | some d => decide (d < s.m) | none => true) (xord X ops.toList l (K .normal) s)
      | none => none))
  | .seq c d, ls, K, s => xcode fuel b c ls (qseq (xcode fuel b d (ls.drop (loops c)) K) K) s
  | .cond c th el, ls, K, s => (xB (aeval s c)).bind fun t => xite t (xcode fuel b th ls K s) (xcode fuel b el (ls.drop (loops th)) K s)
  | .block id c, ls, K, s => xcode fuel b c ls (qex id K) s
  | .loop c, ls, K, s => (match ls with
    | l :: ls => xif (l.okB b) ((s.toksAt l.toks).bind fun s1 => l.extK s1 fun x => iter (fun x rec => xcode fuel b c ls (qround l rec K) (l.inj x)) fuel x)
    | [] => none)
  | .exit id, _, K, s => K (.exit id) s
  | .ret, _, K, s => K .ret s
  | _, _, _, _ => none

end
end Go.Av
