/-
  TablesBack: whatever the table, true.
-/
import Derived.Test.YtnfbgleaodkjpaaHtBack2
import Derived.Test.YtnfbgleaodkjpaaHtL1
set_option linter.all false
set_option linter.unusedSimpArgs false
namespace Go.Av
open Go.Proofs

theorem tablesBack_core : ∀ l, ArgsOK TT0 Try.f7.params.toList l → PCall Try.prog 7 l (.one (.d (.v (.bool true)))) := by
  intro l h
  obtain ⟨n, ds, h1, rfl⟩ := args1 (t := 22) h
  obtain ⟨t, rfl, ht⟩ := wt_tab n ds h1
  exact (O0_ok 1400).Φ 7 _ _ (tablesBack_spec t 1400 (by omega))
end Go.Av
