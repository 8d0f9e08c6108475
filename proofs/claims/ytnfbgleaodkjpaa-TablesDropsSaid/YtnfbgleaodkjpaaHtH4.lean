/-
  The law 'TablesDrops' holds: whatever its arguments, true.
  Conditions: none beyond those of the given statement.
-/
import Derived.Test.YtnfbgleaodkjpaaHtL4
import Derived.HandedShaped
import Derived.Test.YtnfbgleaodkjpaaRows
set_option linter.all false
namespace Go.Proofs.Ytnfbgleaodkjpaa
open Go.Av Go.ChangeShapes Go.WideShapes Go.ChangeAt Go.RowKit
theorem own0 : ownKnob Try.prog.godebug = none := by kernel_rfl
theorem laidOut0 : laidOutB Try.prog = true := by kernel_rfl
def S0 : List TypeId := [3, 9, 22, 33]
theorem closed0 : closedT TT0 S0 = true := by kernel_rfl
set_option maxRecDepth 100000 in
theorem lifted (os : Os) (started : os.Started) (H : Type) (enc : TypeId × Value → H) :
    ReturnsInHanded {} Try.checked os 9 .any (Rows.tablesDropsSpec.pre6 enc Try.prog Try.f9 Rows.tablesDropsRow.domain false) (Rows.tablesDropsSpec.post enc Try.prog Try.f9 false true false false) := by
  refine returnsInHanded_of_change_shaped (C := Try.checked) own0 started (by kernel_rfl) Try.func9
    (ChangeSpec.witness6 (enc := enc) (C := Try.checked) false ⟨#[], #[.slice none 0 0, .int .i64 0], []⟩ 8 (by kernel_rfl) (by kernel_rfl) (by kernel_rfl) (by kernel_rfl)) ?_
  intro W base args ds gs before hval hW hcnd _ hsh _
  exact law_contract (hgl := gl0 hsh) (bt := 4) TT0_ok closed0 laidOut0 (by kernel_rfl) (by kernel_rfl) (by kernel_rfl) rfl (fun ds h => by
    match ds, h with
    | [d0, d1], _ => rfl) tablesDrops_core hval hW
theorem tablesDrops_holds : Rows.TablesDropsSaid :=
  OpenClaim.holds_of_wide 9 Try.f9 rfl rfl rfl rfl rfl rfl rfl ⟨rfl, rfl, rfl, rfl, rfl⟩ rfl rfl rfl rfl rfl (by kernel_rfl) Try.func9 (by kernel_rfl)
    (of_decide_eq_true (by kernel_rfl)) (by unfold Func.isWrapper; first | (rw [if_pos (by decide +kernel)]; kernel_rfl) | (rw [if_neg (by decide +kernel)]; exact ⟨rfl, rfl⟩))
    (fun os started H enc _ => lifted os started H enc)
end Go.Proofs.Ytnfbgleaodkjpaa
