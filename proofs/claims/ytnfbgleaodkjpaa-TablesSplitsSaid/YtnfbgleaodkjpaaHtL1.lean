/-
  Tables as arguments of a law. TablesParts: whatever the table and the numbers, true.
-/
import Derived.Test.YtnfbgleaodkjpaaHtRow
set_option linter.all false
set_option linter.unusedSimpArgs false
namespace Go.Av
open Go.Proofs

theorem wt_cell (n : Nat) (ds : List D) (h : WT TT0 n 9 ds) : ∃ s : Txt, ds = [.s s] ∧ s.length ≤ 9223372036854775807 := wt_str (i := ty9) rfl rfl h
theorem wt_row (n : Nat) (ds : List D) (h : WT TT0 n 33 ds) : ∃ r : Row, ds = [.sl (rD r)] ∧ (r.length ≤ 9223372036854775807 ∧ ∀ s ∈ r, s.length ≤ 9223372036854775807) := by
  obtain ⟨es, rfl, h4, m', rfl, h5⟩ := wt_slice (i := ty33) rfl rfl h
  obtain ⟨l, rfl, h6⟩ := wt_list (f := fun s => [D.s s]) (q := fun s => s.length ≤ 9223372036854775807) (fun c hc => wt_cell m' c hc) es h5
  exact ⟨l, rfl, by simpa using h4, h6⟩
theorem wt_tab (n : Nat) (ds : List D) (h : WT TT0 n 22 ds) : ∃ t : Tab, ds = [.sl (tD t)] ∧ t.length ≤ 9223372036854775807 ∧ ∀ r ∈ t, r.length ≤ 9223372036854775807 ∧ ∀ s ∈ r, s.length ≤ 9223372036854775807 := by
  obtain ⟨es, rfl, h4, m', rfl, h5⟩ := wt_slice (i := ty22) rfl rfl h
  obtain ⟨l, rfl, h6⟩ := wt_list (f := fun r => [D.sl (rD r)]) (q := fun r : Row => r.length ≤ 9223372036854775807 ∧ ∀ s ∈ r, s.length ≤ 9223372036854775807) (fun c hc => wt_row m' c hc) es h5
  exact ⟨l, rfl, by simpa using h4, h6⟩

theorem tablesParts_core : ∀ l, ArgsOK TT0 Try.f5.params.toList l → PCall Try.prog 5 l (.one (.d (.v (.bool true)))) := by
  intro l h
  obtain ⟨n, ds, m, es, k, fs, h1, h2, h3, rfl⟩ := args3 (t := 22) (u := 3) (v := 3) h
  obtain ⟨t, rfl, ht⟩ := wt_tab n ds h1
  obtain ⟨i, rfl, _⟩ := wt_int (i := ty3) rfl rfl h2
  obtain ⟨j, rfl, _⟩ := wt_int (i := ty3) rfl rfl h3
  exact (O0_ok 1300).Φ 5 _ _ (tablesParts_spec t i j 1300 (by omega))
end Go.Av
