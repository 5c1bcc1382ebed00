/- The program's types, by program (gsa.py). -/
import Derived.Test.YtdecnnhcbjhfgaaRows
import Derived.Test.YtdecnnhcbjhfgaaU23
namespace Go.Proofs.Ytdecnnhcbjhfgaa.Am
set_option linter.unusedSimpArgs false
set_option linter.unusedVariables false
open Go
def Θ : TT := [
  (3, ⟨.int .i64, 1, 8, some (.int .i64 0), some (.int .i64), false⟩),
  (5, ⟨.int .u8, 1, 1, some (.int .u8 0), some (.int .u8), false⟩),
  (4, ⟨.bool, 1, 1, some (.bool false), some (.bool), false⟩),
  (22, ⟨.slice 3, 1, 24, some (.nils), some (.lst (.int .i64)), false⟩),
  (37, ⟨.slice 5, 1, 24, some (.nils), some (.lst (.int .u8)), false⟩),
  (38, ⟨.slice 32, 1, 24, some (.nils), some (.lst (.txn)), false⟩),
  (41, ⟨.slice 4, 1, 24, some (.nils), some (.lst (.bool)), false⟩),
  (49, ⟨.slice 26, 1, 24, some (.nils), some (.lst (.txn)), false⟩),
  (24, ⟨.struct [(22, 0, 1), (3, 1, 1)], 2, 32, some (.agg [.nils, .int .i64 0]), some (.led), false⟩),
  (26, ⟨.struct [(3, 0, 1), (3, 1, 1), (3, 2, 1), (3, 3, 1)], 4, 32, some (.agg [.int .i64 0, .int .i64 0, .int .i64 0, .int .i64 0]), some (.txn), false⟩),
  (28, ⟨.struct [(22, 0, 1), (3, 1, 1)], 2, 32, some (.agg [.nils, .int .i64 0]), some (.led), false⟩),
  (32, ⟨.struct [(3, 0, 1), (3, 1, 1), (3, 2, 1), (3, 3, 1)], 4, 32, some (.agg [.int .i64 0, .int .i64 0, .int .i64 0, .int .i64 0]), some (.txn), false⟩),
  (74, ⟨.struct [(72, 0, 6), (3, 6, 1)], 7, 56, some (.agg [.int .i64 0, .int .i64 0, .int .i64 0, .int .i64 0, .int .i64 0, .int .i64 0, .int .i64 0]), none, false⟩),
  (77, ⟨.struct [(37, 0, 1), (3, 1, 1)], 2, 32, some (.agg [.nils, .int .i64 0]), none, false⟩),
  (59, ⟨.ptr 74, 1, 8, some (.nilp), none, false⟩),
  (64, ⟨.ptr 77, 1, 8, some (.nilp), none, false⟩),
  (72, ⟨.arr 6 3, 6, 48, some (.agg [.int .i64 0, .int .i64 0, .int .i64 0, .int .i64 0, .int .i64 0, .int .i64 0]), none, false⟩)]
theorem Θ_ok : TT.ok Try.prog Θ := TT.okB_ok (by kernel_rfl)
theorem mixed : Try.prog.follows .mixedOrders = true := by kernel_rfl
end Go.Proofs.Ytdecnnhcbjhfgaa.Am
