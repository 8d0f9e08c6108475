/-
  Facts on types, laid; more fuel takes nothing away. Over any program. No toy.
-/
import Derived.Test.YtnfbgleaodkjpaaHvX6
set_option linter.all false
namespace Go.Av
open Go.RowKit

section
variable {P : Program} {t : TypeId} {sz by_ : Nat} {zero : List C} {cks : List CK}
theorem TFact.int {k : IntKind} (h1 : tsz P t = some sz) (h2 : tagg P t = some false) (h3 : tbytes P t = some by_) (h4 : tzero P t = some zero) (h5 : (P.underlying t).isSome = true) (h6 : tint P t = some k) (h7 : telem P t = none) (h8 : tarr P t = none) :
    TFact P t ⟨sz, false, by_, zero, cks, .int k⟩ := ⟨h1, h2, h3, h4, h5, h6, h7, h8⟩
theorem TFact.bool (h1 : tsz P t = some sz) (h2 : tagg P t = some false) (h3 : tbytes P t = some by_) (h4 : tzero P t = some zero) (h5 : (P.underlying t).isSome = true) (h6 : tbool P t = true) (h7 : telem P t = none) (h8 : tarr P t = none) :
    TFact P t ⟨sz, false, by_, zero, cks, .bool⟩ := ⟨h1, h2, h3, h4, h5, h6, h7, h8⟩
theorem TFact.str (h1 : tsz P t = some sz) (h2 : tagg P t = some false) (h3 : tbytes P t = some by_) (h4 : tzero P t = some zero) (h5 : (P.underlying t).isSome = true) (h6 : tstr P t = true) (h7 : telem P t = none) (h8 : tarr P t = none) :
    TFact P t ⟨sz, false, by_, zero, cks, .str⟩ := ⟨h1, h2, h3, h4, h5, h6, h7, h8⟩
theorem TFact.slice {e : TypeId} (h1 : tsz P t = some sz) (h2 : tagg P t = some false) (h3 : tbytes P t = some by_) (h4 : tzero P t = some zero) (h5 : (P.underlying t).isSome = true) (h7 : telem P t = some e) (h8 : tarr P t = none) :
    TFact P t ⟨sz, false, by_, zero, cks, .slice e⟩ := ⟨h1, h2, h3, h4, h5, h7, h8⟩
theorem TFact.arr {n : Nat} {e : TypeId} (h1 : tsz P t = some sz) (h2 : tagg P t = some true) (h3 : tbytes P t = some by_) (h4 : tzero P t = some zero) (h5 : (P.underlying t).isSome = true) (h7 : telem P t = none) (h8 : tarr P t = some (n, e)) (h9 : tstruct P t = none) :
    TFact P t ⟨sz, true, by_, zero, cks, .arr n e⟩ := ⟨h1, h2, h3, h4, h5, h7, h8, h9⟩
theorem TFact.struct {fs : List (Nat × TypeId × Nat)} (h1 : tsz P t = some sz) (h2 : tagg P t = some true) (h3 : tbytes P t = some by_) (h4 : tzero P t = some zero) (h5 : (P.underlying t).isSome = true) (h7 : telem P t = none) (h8 : tarr P t = none)
    (h9 : tstruct P t = some (fs.map fun f => (f.1, f.2.2))) (h10 : (List.range fs.length).map (tfield P t) = fs.map fun f => some (f.1, f.2.1)) : TFact P t ⟨sz, true, by_, zero, cks, .struct fs⟩ := ⟨h1, h2, h3, h4, h5, h7, h8, h9, h10⟩
theorem TFact.map {ag : Bool} (h1 : tsz P t = some sz) (h2 : tagg P t = some ag) (h3 : tbytes P t = some by_) (h4 : tzero P t = some zero) (h5 : (P.underlying t).isSome = true) (h6 : tmapB P t = true) : TFact P t ⟨sz, ag, by_, zero, cks, .map⟩ := ⟨h1, h2, h3, h4, h5, h6⟩
theorem TFact.other {ag : Bool} (h1 : tsz P t = some sz) (h2 : tagg P t = some ag) (h3 : tbytes P t = some by_) (h4 : tzero P t = some zero) (h5 : (P.underlying t).isSome = true) : TFact P t ⟨sz, ag, by_, zero, cks, .other⟩ := ⟨h1, h2, h3, h4, h5, trivial⟩
end

/-- A table of types. -/
def ttab : List (Option TI) → TT
  | [], _ => none
  | a :: _, 0 => a
  | _ :: l, n + 1 => ttab l n
def TAll (P : Program) : Nat → List (Option TI) → Prop
  | _, [] => True
  | k, none :: l => TAll P (k + 1) l
  | k, some i :: l => TFact P k i ∧ TAll P (k + 1) l
theorem TOk.of {P : Program} : ∀ (l : List (Option TI)) (k : Nat), TAll P k l → ∀ t i, ttab l t = some i → TFact P (k + t) i
  | [], _, _, t, i, h => by cases h
  | none :: l, k, ha, 0, i, h => by cases h
  | some j :: l, k, ha, 0, i, h => by simp only [ttab, Option.some.injEq] at h; subst h; exact ha.1
  | none :: l, k, ha, t + 1, i, h => by
    have := TOk.of l (k + 1) ha t i h
    rwa [show k + 1 + t = k + (t + 1) by omega] at this
  | some j :: l, k, ha, t + 1, i, h => by
    have := TOk.of l (k + 1) ha.2 t i h
    rwa [show k + 1 + t = k + (t + 1) by omega] at this
theorem TOk.tab {P : Program} {l : List (Option TI)} (h : TAll P 0 l) : TOk P (ttab l) := fun t i hi => by
  have := TOk.of l 0 h t i hi
  rwa [Nat.zero_add] at this

/-- A loop, by a measure. -/
theorem iter_run {X R : Type} {F : X → (X → Option R) → Option R} (I : X → Prop) (μ : X → Nat) (g : X → R) (h : ∀ x rec, I x → (∀ y, I y → μ y < μ x → rec y = some (g y)) → F x rec = some (g x)) :
    ∀ (n : Nat) (x : X), I x → μ x < n → iter F n x = some (g x)
  | 0, x, _, hn => absurd hn (Nat.not_lt_zero _)
  | n + 1, x, hx, hn => h x _ hx fun y hy hyx => iter_run I μ g h n y hy (by omega)

end Go.Av
namespace Go.Av
/-- A table of functions. -/
def ftab : List (Option (Func × List LSpec)) → FuncId → Option (Func × List LSpec)
  | [], _ => none
  | a :: _, 0 => a
  | _ :: l, n + 1 => ftab l n
def FAll (P : Program) : Nat → List (Option (Func × List LSpec)) → Prop
  | _, [] => True
  | k, none :: l => FAll P (k + 1) l
  | k, some p :: l => (P.funcs[k]? = some p.1 ∧ (p.1.name == "runtime.NumGoroutine") = false) ∧ FAll P (k + 1) l
theorem FAll.of {P : Program} : ∀ (l : List (Option (Func × List LSpec))) (k : Nat), FAll P k l → ∀ t p, ftab l t = some p → P.funcs[k + t]? = some p.1 ∧ (p.1.name == "runtime.NumGoroutine") = false
  | [], _, _, t, p, h => by cases h
  | none :: l, k, ha, 0, p, h => by cases h
  | some j :: l, k, ha, 0, p, h => by simp only [ftab, Option.some.injEq] at h; subst h; exact ha.1
  | none :: l, k, ha, t + 1, p, h => by
    have := FAll.of l (k + 1) ha t p h
    rwa [show k + 1 + t = k + (t + 1) by omega] at this
  | some j :: l, k, ha, t + 1, p, h => by
    have := FAll.of l (k + 1) ha.2 t p h
    rwa [show k + 1 + t = k + (t + 1) by omega] at this
/-- A table of functions, with how each is run. -/
def etab : List (Option FE) → FuncId → Option FE
  | [], _ => none
  | a :: _, 0 => a
  | _ :: l, n + 1 => etab l n
def EAll (P : Program) : Nat → List (Option FE) → Prop
  | _, [] => True
  | k, none :: l => EAll P (k + 1) l
  | k, some p :: l => (P.funcs[k]? = some p.fn ∧ (p.fn.name == "runtime.NumGoroutine") = false) ∧ EAll P (k + 1) l
theorem EAll.of {P : Program} : ∀ (l : List (Option FE)) (k : Nat), EAll P k l → ∀ t p, etab l t = some p → P.funcs[k + t]? = some p.fn ∧ (p.fn.name == "runtime.NumGoroutine") = false
  | [], _, _, t, p, h => by cases h
  | none :: l, k, ha, 0, p, h => by cases h
  | some j :: l, k, ha, 0, p, h => by simp only [etab, Option.some.injEq] at h; subst h; exact ha.1
  | none :: l, k, ha, t + 1, p, h => by
    have := EAll.of l (k + 1) ha t p h
    rwa [show k + 1 + t = k + (t + 1) by omega] at this
  | some j :: l, k, ha, t + 1, p, h => by
    have := EAll.of l (k + 1) ha.2 t p h
    rwa [show k + 1 + t = k + (t + 1) by omega] at this
theorem EAll.tab {P : Program} {l : List (Option FE)} (h : EAll P 0 l) : ∀ g p, etab l g = some p → P.funcs[g]? = some p.fn ∧ (p.fn.name == "runtime.NumGoroutine") = false := fun g p hp => by
  have := EAll.of l 0 h g p hp
  rwa [Nat.zero_add] at this
theorem FAll.tab {P : Program} {l : List (Option (Func × List LSpec))} (h : FAll P 0 l) : ∀ g p, ftab l g = some p → P.funcs[g]? = some p.1 ∧ (p.1.name == "runtime.NumGoroutine") = false := fun g p hp => by
  have := FAll.of l 0 h g p hp
  rwa [Nat.zero_add] at this
end Go.Av
