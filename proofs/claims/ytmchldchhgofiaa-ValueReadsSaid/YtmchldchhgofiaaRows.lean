/-
  NARROWER THAN 'FOR EVERY INPUT', by the rows' own cells (each row's printed sentence says how): ValueChecks: loops · ValueCompares: loops · ValueOrders: loops · ValueSizes: loops · ValueLeast: loops · ValueReads: loops · ValueReturns: loops.
  DERIVED. THE GIVEN ROWS OF THIS SEAT. 9 by the template 'for every input the law returns true; each argument reads behind the call as it read before'; 0 by the template 'total and deterministic' (their statements: YtmchldchhgofiaaTotals.lean).
  GIVEN WITH THE SEED: the statements are not yours to turn. If you find one false, say at which input.
  Laid BY PROGRAM, IN A SANDBOX (cutbox-rows.mjs): the forced cells as the released guide's own fill.sh prints them over the translation 9fdfac3e11986cfa… (all of the seat's roots in one cut). By AI agents, Wed Nov 11 2026. No macro, syntax, notation, axiom, sorry.
-/
import Derived.Test.YtmchldchhgofiaaChecked
import GoSem.Claim
import GoSem.ClaimJoined
import GoSem.ClaimMapViews
import Derived.JoinedTies
import Derived.KernelRfl
namespace Go.Proofs.Ytmchldchhgofiaa
/- THE CELL 'sum', in the pinned program and in every row, IS THE sha256 OF THE DUMP (.gsa) THAT YtmchldchhgofiaaProg.lean LOADS. Nothing in Lean hashes anything: it is a label: what it is worth is what the hold of that sum in a sandbox is worth. -/
noncomputable def Try.pinned : Pinned := { name := "ytmchldchhgofiaa", sum := "9fdfac3e11986cfad9058f0301097a1fb175cb046c5743b8bdb6f34146765630", checked := Try.checked }
namespace Rows
def none {H : Type} : Left H := { results := [], args := [] }

/-- 'synthesislaw01.ValueChecks': WHATEVER THE INPUT: true; the input reads as it did. -/
def valueChecksSpec : ChangeSpec := { name := "valueChecks", fn := fun _ => fun
  | [d] => { results := [.lit (.bool true)], args := [d] }
  | _ => none }
def valueChecksRow : OpenClaim := { program := "ytmchldchhgofiaa", sum := "9fdfac3e11986cfad9058f0301097a1fb175cb046c5743b8bdb6f34146765630", func := "synthesis/synthesislaw01.ValueChecks", spec := "valueChecks", recurses := true, loops := true, apart := false }
def ValueChecksSaid : Prop := valueChecksRow.holds Try.pinned (OpenSpec.ofChange valueChecksSpec)

/-- ITS FALSE NEIGHBOUR: 'it returns false'. Refute it at one input. -/
def valueChecksWrong : ChangeSpec := { name := "valueChecks", fn := fun _ => fun
  | [d] => { results := [.lit (.bool false)], args := [d] }
  | _ => none }
def ValueChecksWrongFalsely : Prop := valueChecksRow.holds Try.pinned (OpenSpec.ofChange valueChecksWrong)

/-- 'synthesislaw01.ValueCompares': WHATEVER THE INPUT: true; the input reads as it did. -/
def valueComparesSpec : ChangeSpec := { name := "valueCompares", fn := fun _ => fun
  | [d1, d2] => { results := [.lit (.bool true)], args := [d1, d2] }
  | _ => none }
def valueComparesRow : OpenClaim := { program := "ytmchldchhgofiaa", sum := "9fdfac3e11986cfad9058f0301097a1fb175cb046c5743b8bdb6f34146765630", func := "synthesis/synthesislaw01.ValueCompares", spec := "valueCompares", recurses := true, loops := true, apart := false }
def ValueComparesSaid : Prop := valueComparesRow.holds Try.pinned (OpenSpec.ofChange valueComparesSpec)

/-- ITS FALSE NEIGHBOUR: 'it returns false'. Refute it at one input. -/
def valueComparesWrong : ChangeSpec := { name := "valueCompares", fn := fun _ => fun
  | [d1, d2] => { results := [.lit (.bool false)], args := [d1, d2] }
  | _ => none }
def ValueComparesWrongFalsely : Prop := valueComparesRow.holds Try.pinned (OpenSpec.ofChange valueComparesWrong)

/-- 'synthesislaw01.ValueOrders': WHATEVER THE INPUT: true; the input reads as it did. -/
def valueOrdersSpec : ChangeSpec := { name := "valueOrders", fn := fun _ => fun
  | [d1, d2, d3] => { results := [.lit (.bool true)], args := [d1, d2, d3] }
  | _ => none }
def valueOrdersRow : OpenClaim := { program := "ytmchldchhgofiaa", sum := "9fdfac3e11986cfad9058f0301097a1fb175cb046c5743b8bdb6f34146765630", func := "synthesis/synthesislaw01.ValueOrders", spec := "valueOrders", recurses := true, loops := true, apart := false }
def ValueOrdersSaid : Prop := valueOrdersRow.holds Try.pinned (OpenSpec.ofChange valueOrdersSpec)

/-- ITS FALSE NEIGHBOUR: 'it returns false'. Refute it at one input. -/
def valueOrdersWrong : ChangeSpec := { name := "valueOrders", fn := fun _ => fun
  | [d1, d2, d3] => { results := [.lit (.bool false)], args := [d1, d2, d3] }
  | _ => none }
def ValueOrdersWrongFalsely : Prop := valueOrdersRow.holds Try.pinned (OpenSpec.ofChange valueOrdersWrong)

/-- 'synthesislaw01.ValueSizes': WHATEVER THE INPUT: true; the input reads as it did. -/
def valueSizesSpec : ChangeSpec := { name := "valueSizes", fn := fun _ => fun
  | [d] => { results := [.lit (.bool true)], args := [d] }
  | _ => none }
def valueSizesRow : OpenClaim := { program := "ytmchldchhgofiaa", sum := "9fdfac3e11986cfad9058f0301097a1fb175cb046c5743b8bdb6f34146765630", func := "synthesis/synthesislaw01.ValueSizes", spec := "valueSizes", recurses := true, loops := true, apart := false }
def ValueSizesSaid : Prop := valueSizesRow.holds Try.pinned (OpenSpec.ofChange valueSizesSpec)

/-- ITS FALSE NEIGHBOUR: 'it returns false'. Refute it at one input. -/
def valueSizesWrong : ChangeSpec := { name := "valueSizes", fn := fun _ => fun
  | [d] => { results := [.lit (.bool false)], args := [d] }
  | _ => none }
def ValueSizesWrongFalsely : Prop := valueSizesRow.holds Try.pinned (OpenSpec.ofChange valueSizesWrong)

/-- 'synthesislaw01.ValueLeast': WHATEVER THE INPUT: true; the input reads as it did. -/
def valueLeastSpec : ChangeSpec := { name := "valueLeast", fn := fun _ => fun
  | [d] => { results := [.lit (.bool true)], args := [d] }
  | _ => none }
def valueLeastRow : OpenClaim := { program := "ytmchldchhgofiaa", sum := "9fdfac3e11986cfad9058f0301097a1fb175cb046c5743b8bdb6f34146765630", func := "synthesis/synthesislaw01.ValueLeast", spec := "valueLeast", recurses := true, loops := true, apart := false }
def ValueLeastSaid : Prop := valueLeastRow.holds Try.pinned (OpenSpec.ofChange valueLeastSpec)

/-- ITS FALSE NEIGHBOUR: 'it returns false'. Refute it at one input. -/
def valueLeastWrong : ChangeSpec := { name := "valueLeast", fn := fun _ => fun
  | [d] => { results := [.lit (.bool false)], args := [d] }
  | _ => none }
def ValueLeastWrongFalsely : Prop := valueLeastRow.holds Try.pinned (OpenSpec.ofChange valueLeastWrong)

/-- 'synthesislaw01.ValueNames': WHATEVER THE INPUT: true; the input reads as it did. -/
def valueNamesSpec : ChangeSpec := { name := "valueNames", fn := fun _ => fun
  | [d1, d2] => { results := [.lit (.bool true)], args := [d1, d2] }
  | _ => none }
def valueNamesRow : OpenClaim := { program := "ytmchldchhgofiaa", sum := "9fdfac3e11986cfad9058f0301097a1fb175cb046c5743b8bdb6f34146765630", func := "synthesis/synthesislaw01.ValueNames", spec := "valueNames", recurses := true, apart := false }
def ValueNamesSaid : Prop := valueNamesRow.holds Try.pinned (OpenSpec.ofChange valueNamesSpec)

/-- ITS FALSE NEIGHBOUR: 'it returns false'. Refute it at one input. -/
def valueNamesWrong : ChangeSpec := { name := "valueNames", fn := fun _ => fun
  | [d1, d2] => { results := [.lit (.bool false)], args := [d1, d2] }
  | _ => none }
def ValueNamesWrongFalsely : Prop := valueNamesRow.holds Try.pinned (OpenSpec.ofChange valueNamesWrong)

/-- 'synthesislaw01.ValueBuilds': WHATEVER THE INPUT: true; the input reads as it did. -/
def valueBuildsSpec : ChangeSpec := { name := "valueBuilds", fn := fun _ => fun
  | [d] => { results := [.lit (.bool true)], args := [d] }
  | _ => none }
def valueBuildsRow : OpenClaim := { program := "ytmchldchhgofiaa", sum := "9fdfac3e11986cfad9058f0301097a1fb175cb046c5743b8bdb6f34146765630", func := "synthesis/synthesislaw01.ValueBuilds", spec := "valueBuilds", recurses := true, apart := false }
def ValueBuildsSaid : Prop := valueBuildsRow.holds Try.pinned (OpenSpec.ofChange valueBuildsSpec)

/-- ITS FALSE NEIGHBOUR: 'it returns false'. Refute it at one input. -/
def valueBuildsWrong : ChangeSpec := { name := "valueBuilds", fn := fun _ => fun
  | [d] => { results := [.lit (.bool false)], args := [d] }
  | _ => none }
def ValueBuildsWrongFalsely : Prop := valueBuildsRow.holds Try.pinned (OpenSpec.ofChange valueBuildsWrong)

/-- 'synthesislaw01.ValueReads': WHATEVER THE INPUT: true; the input reads as it did. -/
def valueReadsSpec : ChangeSpec := { name := "valueReads", fn := fun _ => fun
  | [d] => { results := [.lit (.bool true)], args := [d] }
  | _ => none }
def valueReadsRow : OpenClaim := { program := "ytmchldchhgofiaa", sum := "9fdfac3e11986cfad9058f0301097a1fb175cb046c5743b8bdb6f34146765630", func := "synthesis/synthesislaw01.ValueReads", spec := "valueReads", recurses := true, loops := true, apart := false }
def ValueReadsSaid : Prop := valueReadsRow.holds Try.pinned (OpenSpec.ofChange valueReadsSpec)

/-- ITS FALSE NEIGHBOUR: 'it returns false'. Refute it at one input. -/
def valueReadsWrong : ChangeSpec := { name := "valueReads", fn := fun _ => fun
  | [d] => { results := [.lit (.bool false)], args := [d] }
  | _ => none }
def ValueReadsWrongFalsely : Prop := valueReadsRow.holds Try.pinned (OpenSpec.ofChange valueReadsWrong)

/-- 'synthesislaw01.ValueReturns': WHATEVER THE INPUT: true; the input reads as it did. -/
def valueReturnsSpec : ChangeSpec := { name := "valueReturns", fn := fun _ => fun
  | [d] => { results := [.lit (.bool true)], args := [d] }
  | _ => none }
def valueReturnsRow : OpenClaim := { program := "ytmchldchhgofiaa", sum := "9fdfac3e11986cfad9058f0301097a1fb175cb046c5743b8bdb6f34146765630", func := "synthesis/synthesislaw01.ValueReturns", spec := "valueReturns", recurses := true, loops := true, apart := false }
def ValueReturnsSaid : Prop := valueReturnsRow.holds Try.pinned (OpenSpec.ofChange valueReturnsSpec)

/-- ITS FALSE NEIGHBOUR: 'it returns false'. Refute it at one input. -/
def valueReturnsWrong : ChangeSpec := { name := "valueReturns", fn := fun _ => fun
  | [d] => { results := [.lit (.bool false)], args := [d] }
  | _ => none }
def ValueReturnsWrongFalsely : Prop := valueReturnsRow.holds Try.pinned (OpenSpec.ofChange valueReturnsWrong)

/- THE SECOND FORM. 'bulk': how many values and letters a reading holds, each counted each time it is reached (what is shared counts as often as it is met; a slice's spare places count too). A statement '..UptoSaid' is the law's where the arguments, and the package variables that the reading takes, are together of bulk at most 1048576: NARROWER than '..Said'. Prove '..Said' where nothing that the law and all that it calls make is longer than what came in: it says more and counts as full. Else prove '..UptoSaid'. A law counts once. -/
mutual
def uptoBulk {H : Type} : DataW H → Nat
  | .lit (.string bytes) => bytes.length + 1
  | .lit _ => 1
  | .nil => 1
  | .ptr d => uptoBulk d + 1
  | .slice elems spare => uptoBulkAll elems + uptoBulkAll spare + 1
  | .agg parts => uptoBulkAll parts + 1
  | .iface _ d => uptoBulk d + 1
  | .map entries => uptoBulkEntries entries + 1
  | .held _ => 1
def uptoBulkAll {H : Type} : List (DataW H) → Nat
  | [] => 0
  | d :: r => uptoBulk d + uptoBulkAll r
def uptoBulkEntries {H : Type} : List (Lit × DataW H) → Nat
  | [] => 0
  | x :: r => uptoBulkEntry x + uptoBulkEntries r
def uptoBulkEntry {H : Type} : Lit × DataW H → Nat
  | (.string bytes, d) => bytes.length + uptoBulk d + 1
  | (_, d) => uptoBulk d + 1
 end
def uptoSmall : (H : Type) → List (DataW H) → Bool := fun _ ds => decide (uptoBulkAll ds ≤ 1048576)
def OpenSpec.upto (s : _root_.Go.ChangeSpec) : _root_.Go.OpenSpec := { _root_.Go.OpenSpec.ofChange s with cond := some uptoSmall }

/-- 'synthesislaw01.ValueChecks', WHERE WHAT IT READS IS OF BULK AT MOST 1048576: true; the input reads as it did. -/
def valueChecksUptoRow : OpenClaim := { program := "ytmchldchhgofiaa", sum := "9fdfac3e11986cfad9058f0301097a1fb175cb046c5743b8bdb6f34146765630", func := "synthesis/synthesislaw01.ValueChecks", spec := "valueChecks", recurses := true, loops := true, apart := false, narrowed := true }
def ValueChecksUptoSaid : Prop := valueChecksUptoRow.holds Try.pinned (OpenSpec.upto valueChecksSpec)

/-- 'synthesislaw01.ValueCompares', WHERE WHAT IT READS IS OF BULK AT MOST 1048576: true; the input reads as it did. -/
def valueComparesUptoRow : OpenClaim := { program := "ytmchldchhgofiaa", sum := "9fdfac3e11986cfad9058f0301097a1fb175cb046c5743b8bdb6f34146765630", func := "synthesis/synthesislaw01.ValueCompares", spec := "valueCompares", recurses := true, loops := true, apart := false, narrowed := true }
def ValueComparesUptoSaid : Prop := valueComparesUptoRow.holds Try.pinned (OpenSpec.upto valueComparesSpec)

/-- 'synthesislaw01.ValueOrders', WHERE WHAT IT READS IS OF BULK AT MOST 1048576: true; the input reads as it did. -/
def valueOrdersUptoRow : OpenClaim := { program := "ytmchldchhgofiaa", sum := "9fdfac3e11986cfad9058f0301097a1fb175cb046c5743b8bdb6f34146765630", func := "synthesis/synthesislaw01.ValueOrders", spec := "valueOrders", recurses := true, loops := true, apart := false, narrowed := true }
def ValueOrdersUptoSaid : Prop := valueOrdersUptoRow.holds Try.pinned (OpenSpec.upto valueOrdersSpec)

/-- 'synthesislaw01.ValueSizes', WHERE WHAT IT READS IS OF BULK AT MOST 1048576: true; the input reads as it did. -/
def valueSizesUptoRow : OpenClaim := { program := "ytmchldchhgofiaa", sum := "9fdfac3e11986cfad9058f0301097a1fb175cb046c5743b8bdb6f34146765630", func := "synthesis/synthesislaw01.ValueSizes", spec := "valueSizes", recurses := true, loops := true, apart := false, narrowed := true }
def ValueSizesUptoSaid : Prop := valueSizesUptoRow.holds Try.pinned (OpenSpec.upto valueSizesSpec)

/-- 'synthesislaw01.ValueLeast', WHERE WHAT IT READS IS OF BULK AT MOST 1048576: true; the input reads as it did. -/
def valueLeastUptoRow : OpenClaim := { program := "ytmchldchhgofiaa", sum := "9fdfac3e11986cfad9058f0301097a1fb175cb046c5743b8bdb6f34146765630", func := "synthesis/synthesislaw01.ValueLeast", spec := "valueLeast", recurses := true, loops := true, apart := false, narrowed := true }
def ValueLeastUptoSaid : Prop := valueLeastUptoRow.holds Try.pinned (OpenSpec.upto valueLeastSpec)

/-- 'synthesislaw01.ValueNames', WHERE WHAT IT READS IS OF BULK AT MOST 1048576: true; the input reads as it did. -/
def valueNamesUptoRow : OpenClaim := { program := "ytmchldchhgofiaa", sum := "9fdfac3e11986cfad9058f0301097a1fb175cb046c5743b8bdb6f34146765630", func := "synthesis/synthesislaw01.ValueNames", spec := "valueNames", recurses := true, apart := false, narrowed := true }
def ValueNamesUptoSaid : Prop := valueNamesUptoRow.holds Try.pinned (OpenSpec.upto valueNamesSpec)

/-- 'synthesislaw01.ValueBuilds', WHERE WHAT IT READS IS OF BULK AT MOST 1048576: true; the input reads as it did. -/
def valueBuildsUptoRow : OpenClaim := { program := "ytmchldchhgofiaa", sum := "9fdfac3e11986cfad9058f0301097a1fb175cb046c5743b8bdb6f34146765630", func := "synthesis/synthesislaw01.ValueBuilds", spec := "valueBuilds", recurses := true, apart := false, narrowed := true }
def ValueBuildsUptoSaid : Prop := valueBuildsUptoRow.holds Try.pinned (OpenSpec.upto valueBuildsSpec)

/-- 'synthesislaw01.ValueReads', WHERE WHAT IT READS IS OF BULK AT MOST 1048576: true; the input reads as it did. -/
def valueReadsUptoRow : OpenClaim := { program := "ytmchldchhgofiaa", sum := "9fdfac3e11986cfad9058f0301097a1fb175cb046c5743b8bdb6f34146765630", func := "synthesis/synthesislaw01.ValueReads", spec := "valueReads", recurses := true, loops := true, apart := false, narrowed := true }
def ValueReadsUptoSaid : Prop := valueReadsUptoRow.holds Try.pinned (OpenSpec.upto valueReadsSpec)

/-- 'synthesislaw01.ValueReturns', WHERE WHAT IT READS IS OF BULK AT MOST 1048576: true; the input reads as it did. -/
def valueReturnsUptoRow : OpenClaim := { program := "ytmchldchhgofiaa", sum := "9fdfac3e11986cfad9058f0301097a1fb175cb046c5743b8bdb6f34146765630", func := "synthesis/synthesislaw01.ValueReturns", spec := "valueReturns", recurses := true, loops := true, apart := false, narrowed := true }
def ValueReturnsUptoSaid : Prop := valueReturnsUptoRow.holds Try.pinned (OpenSpec.upto valueReturnsSpec)

end Rows
end Go.Proofs.Ytmchldchhgofiaa
