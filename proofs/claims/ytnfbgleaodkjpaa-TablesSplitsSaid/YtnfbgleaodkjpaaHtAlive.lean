/-
  The closed examples of the chapter, at any depth that is great enough.
-/
import Derived.Test.YtnfbgleaodkjpaaHtRun
set_option linter.all false
namespace Go.Av
set_option maxRecDepth 100000 in
theorem awake_at (n : Nat) : (O0 (n + 24)).Φ i_law08_awake [] = some (.one (.d (.v (.bool true)))) := by kernel_rfl
end Go.Av
