/-
  TablesSplits: whatever the table, the number and the text, true.
-/
import Derived.Test.YtnfbgleaodkjpaaHtSpl2
import Derived.Test.YtnfbgleaodkjpaaHtL1
set_option linter.all false
set_option linter.unusedSimpArgs false
namespace Go.Av
open Go.Proofs

theorem tablesSplits_core : ∀ l, ArgsOK TT0 Try.f4.params.toList l → PCall Try.prog 4 l (.one (.d (.v (.bool true)))) := by
  intro l h
  obtain ⟨n, ds, m, es, k, fs, h1, h2, h3, rfl⟩ := args3 (t := 22) (u := 3) (v := 9) h
  obtain ⟨t, rfl, ht⟩ := wt_tab n ds h1
  obtain ⟨i, rfl, _⟩ := wt_int (i := ty3) rfl rfl h2
  obtain ⟨s, rfl, _⟩ := wt_cell k fs h3
  exact (O0_ok 1400).Φ 4 _ _ (tablesSplits_spec t i s 1400 (by omega))
end Go.Av
