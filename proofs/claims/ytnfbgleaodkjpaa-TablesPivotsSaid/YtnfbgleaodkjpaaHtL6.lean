/-
  TablesPivots: whatever the table and the number, true.
-/
import Derived.Test.YtnfbgleaodkjpaaHtPiv4
import Derived.Test.YtnfbgleaodkjpaaHtL1
set_option linter.all false
set_option linter.unusedSimpArgs false
namespace Go.Av
open Go.Proofs

theorem tablesPivots_core : ∀ l, ArgsOK TT0 Try.f3.params.toList l → PCall Try.prog 3 l (.one (.d (.v (.bool true)))) := by
  intro l h
  obtain ⟨n, ds, m, es, h1, h2, rfl⟩ := args2 (t := 22) (u := 3) h
  obtain ⟨t, rfl, ht⟩ := wt_tab n ds h1
  obtain ⟨i, rfl, hi⟩ := wt_int (i := ty3) rfl rfl h2
  exact (O0_ok 1400).Φ 3 _ _ (tablesPivots_spec t i hi 1400 (by omega))
end Go.Av
