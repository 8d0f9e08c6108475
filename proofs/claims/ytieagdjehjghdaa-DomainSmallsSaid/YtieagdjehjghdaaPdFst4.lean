/-
  The first values are valid, of their type, and no two are alike.
-/
import Derived.Test.YtieagdjehjghdaaPdFst3
set_option linter.all false
set_option linter.unusedSimpArgs false
set_option maxRecDepth 100000
namespace Go.Av
open Go.Proofs
theorem val_chk : ∀ t, t < 9 → 1 ≤ t → ∀ k, k < 64 → (t ≠ 1 ∨ k < 2) → (valAt t k).chk = 0 := by decide +kernel
theorem val_ty : ∀ t, t < 9 → 1 ≤ t → ∀ k, k < 64 → (valAt t k).ty = t := by decide +kernel
theorem val_wt : ∀ t, t < 9 → 1 ≤ t → ∀ k, k < 64 → (valAt t k).wt ≤ 100 := by decide +kernel
end Go.Av
