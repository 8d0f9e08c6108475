/-
  The functions of the library that are met by the shelf's contracts.
-/
import Derived.Test.YtnfbgleaodkjpaaHtTy
import Derived.Test.YtnfbgleaodkjpaaTryCompare
import Derived.Test.YtnfbgleaodkjpaaTryIndex
set_option linter.all false
namespace Go.Av
open Go.RowKit Go.Proofs

/-- A contract of the shelf as a pure call's. -/
theorem PCall.of_calls {P : Program} {f : FuncId} {args : List A} {r : A} (hf : FnOK P f) (h : ∀ (w : World) (W : WSet) (vs : Array Value), GlW w → vs.size = args.length → (∀ (k : Nat) (q : A), args[k]? = some q → RepA w W E0 q (vs.getD k undef)) →
    ∃ v, RepA w W E0 r v ∧ Calls P f vs w fun e w' => e = .returned v ∧ w' = w) : PCall P f args r := by
  refine ⟨hf, fun w W vs hgl _ hvs hrep => ?_⟩
  obtain ⟨v, hv, hc⟩ := h w W vs hgl hvs hrep
  refine hc.mono ?_
  rintro e w' ⟨rfl, rfl⟩
  exact ⟨v, rfl, hv, ⟨rfl, rfl, rfl, Nat.le_refl _, fun _ _ => rfl⟩⟩

theorem str_inv {w : World} {W : WSet} {E : Env} {l : List UInt8} {v : Value} (h : RepA w W E (.one (.d (.s l))) v) : v = .string ⟨l.toArray⟩ := by
  cases one_inv h; rfl
theorem num_inv {w : World} {W : WSet} {E : Env} {k : IntKind} {n : Int} {v : Value} (h : RepA w W E (.one (.d (.v (.int k n)))) v) : v = .int k n := by
  cases one_inv h; rfl
theorem two_inv {vs : Array Value} {a b : Value} (h : vs.size = 2) (h0 : vs.getD 0 undef = a) (h1 : vs.getD 1 undef = b) : vs = #[a, b] := by
  obtain ⟨l⟩ := vs
  match l, h with
  | [x, y], _ =>
    simp at h0 h1
    rw [h0, h1]

def base0 : Orc where
  Φ := fun g args => match args with
    | [.one (.d (.s a)), .one (.d (.s b))] => if g = 76 then some (.one (.d (.v (.int .i64 (Lib.compareBytes a b))))) else if g = 77 then (if a.length < 4294967281 then some (.one (.d (.v (.int .i64 (Lib.index a b))))) else none) else none
    | _ => none
  Ψ := fun _ _ _ => none

theorem base0_ok : base0.ok Try.prog := by
  refine ⟨fun g args r h => ?_, fun g args H p h => by cases h⟩
  simp only [base0] at h
  split at h
  · rename_i a b
    split at h
    · rename_i hg
      subst hg
      simp only [Option.some.injEq] at h
      subst h
      refine PCall.of_calls ⟨Try.f76, Try.func76, by kernel_rfl, by kernel_rfl⟩ fun w W vs _ hs hr => ⟨_, .one _ _ (RepD.v _ rfl), ?_⟩
      rw [two_inv hs (str_inv (hr 0 _ rfl)) (str_inv (hr 1 _ rfl))]
      exact Try.bytealg_CompareString ⟨a.toArray⟩ ⟨b.toArray⟩ w
    · split at h
      · rename_i hg
        subst hg
        split at h
        · rename_i hl
          simp only [Option.some.injEq] at h
          subst h
          refine PCall.of_calls ⟨Try.f77, Try.func77, by kernel_rfl, by kernel_rfl⟩ fun w W vs hgl hs hr => ⟨_, .one _ _ (RepD.v _ rfl), ?_⟩
          rw [two_inv hs (str_inv (hr 0 _ rfl)) (str_inv (hr 1 _ rfl))]
          obtain ⟨m, hm⟩ := hgl
          exact Try.stringslite_Index ⟨a.toArray⟩ ⟨b.toArray⟩ m w hl hm
        · cases h
      · cases h
  · cases h
theorem gl0 {W : World} (h : W.ShapedOpen Try.prog) : GlW W := Try.laysM219.s1_3 W h
end Go.Av
