/-
  TablesJoins: whatever the tables, true.
-/
import Derived.Test.YtnfbgleaodkjpaaHtBeside2
import Derived.Test.YtnfbgleaodkjpaaHtL1
set_option linter.all false
set_option linter.unusedSimpArgs false
namespace Go.Av
open Go.Proofs

theorem tablesJoins_core : ∀ l, ArgsOK TT0 Try.f8.params.toList l → PCall Try.prog 8 l (.one (.d (.v (.bool true)))) := by
  intro l h
  obtain ⟨n, ds, m, es, h1, h2, rfl⟩ := args2 (t := 22) (u := 22) h
  obtain ⟨a, rfl, _⟩ := wt_tab n ds h1
  obtain ⟨b, rfl, _⟩ := wt_tab m es h2
  exact (O0_ok 1400).Φ 8 _ _ (tablesJoins_spec a b 1400 (by omega))
end Go.Av
