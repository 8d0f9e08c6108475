/-
  The closed examples of the law.
-/
import Derived.Test.YtieagdjehjghdaaVdRun
import Derived.Test.YtieagdjehjghdaaPvData
set_option linter.all false
set_option maxRecDepth 100000
namespace Go.Av
open Go.Proofs
theorem small_eval (m : Nat) : Φ0 (m + 40) i_domain_Small [(A.one (C.d (D.sl ([[(D.v (.int .i64 (2 : Int)))], [(D.v (.int .i64 (1 : Int)))]] : List (List D))))), (A.one (C.d (D.v (.int .i64 (3 : Int)))))] = some (.tup [.agg [.d (.sl [[.sl [[.v (.int .i64 2), .v (.int .i64 0), .s [], .sl []], [.v (.int .i64 2), .v (.int .i64 1), .s [], .sl []], [.v (.int .i64 2), .v (.int .i64 (-1)), .s [], .sl []]]], [.sl [[.v (.int .i64 1), .v (.int .i64 0), .s [], .sl []], [.v (.int .i64 1), .v (.int .i64 1), .s [], .sl []]]]])], aI 0]) := by kernel_rfl
theorem alive_eval (m : Nat) : Φ0 (m + 60) i_law19_alive [] = some (aB true) := by kernel_rfl
end Go.Av
