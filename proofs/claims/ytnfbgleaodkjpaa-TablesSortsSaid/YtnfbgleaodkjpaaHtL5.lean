/-
  TablesSorts: whatever the tables and the number, true.
-/
import Derived.Test.YtnfbgleaodkjpaaHtSrtL
import Derived.Test.YtnfbgleaodkjpaaHtL1
set_option linter.all false
set_option linter.unusedSimpArgs false
namespace Go.Av
open Go.Proofs

theorem tablesSorts_core : ∀ l, ArgsOK TT0 Try.f10.params.toList l → PCall Try.prog 10 l (.one (.d (.v (.bool true)))) := by
  intro l h
  obtain ⟨n, ds, m, es, k, fs, h1, h2, h3, rfl⟩ := args3 (t := 22) (u := 22) (v := 3) h
  obtain ⟨t, rfl, ht⟩ := wt_tab n ds h1
  obtain ⟨u, rfl, hu⟩ := wt_tab m es h2
  obtain ⟨i, rfl, _⟩ := wt_int (i := ty3) rfl rfl h3
  exact (O0_ok 1500).Φ 10 _ _ (tablesSorts_spec t u i 1500 (by omega))
end Go.Av
