/-
  TablesChecks: whatever the table, true.
-/
import Derived.Test.YtnfbgleaodkjpaaHtTr
import Derived.Test.YtnfbgleaodkjpaaHtL1
set_option linter.all false
set_option linter.unusedSimpArgs false
namespace Go.Av
open Go.Proofs

theorem tablesChecks_core : ∀ l, ArgsOK TT0 Try.f6.params.toList l → PCall Try.prog 6 l (.one (.d (.v (.bool true)))) := by
  intro l h
  obtain ⟨n, ds, h1, rfl⟩ := args1 (t := 22) h
  obtain ⟨t, rfl, ht⟩ := wt_tab n ds h1
  exact (O0_ok 1300).Φ 6 _ _ (tablesChecks_spec t 1300 (by omega))
end Go.Av
