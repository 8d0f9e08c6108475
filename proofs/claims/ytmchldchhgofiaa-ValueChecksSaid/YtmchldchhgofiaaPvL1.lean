/-
  ValueChecks: whatever the value, true.
-/
import Derived.Test.YtmchldchhgofiaaPvOpen
set_option linter.all false
namespace Go.Av
open Go.Proofs
theorem valueChecks_core : ∀ l, ArgsOK TT0 Try.f3.params.toList l → PCall Try.prog 3 l (.one (.d (.v (.bool true)))) := by
  intro l h
  obtain ⟨n, ds, h1, rfl⟩ := args1 (t := t_Value) h
  obtain ⟨g, rfl, hg⟩ := wt_GV n ds h1
  rw [argA_GV]
  refine Φ0_ok (g.wt + 30) 3 _ _ ?_
  show Φ0 (g.wt + 29 + 1) i_law01_ValueChecks [g.toA] = _
  rw [law01_ValueChecks_run]
  obtain ⟨b, hb⟩ := ref01_Small_ex g hg (g.wt + 29) (by omega)
  have e1 := alive_spec (g.wt + 29) (by omega)
  have e2 := value_Check_spec g hg (g.wt + 29) (by omega)
  have e3 := ref01_Check_spec g hg (g.wt + 29) (by omega)
  cases b <;> simp [law01_ValueChecks, hb, e1, e2, e3]
end Go.Av
