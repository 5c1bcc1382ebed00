/- The program's types, by program (gsa.py). -/
import Derived.Test.YtkclhekkcffpoaaRows
import Derived.Test.YtkclhekkcffpoaaU24
namespace Go.Proofs.Ytkclhekkcffpoaa.Am
set_option linter.unusedSimpArgs false
set_option linter.unusedVariables false
open Go
def Θ : TT := [
  (3, ⟨.int .i64, 1, 8, some (.int .i64 0), some (.int .i64), false⟩),
  (5, ⟨.int .u8, 1, 1, some (.int .u8 0), some (.int .u8), false⟩),
  (21, ⟨.int .i32, 1, 4, some (.int .i32 0), some (.int .i32), false⟩),
  (112, ⟨.int .u32, 1, 4, some (.int .u32 0), some (.int .u32), false⟩),
  (4, ⟨.bool, 1, 1, some (.bool false), some (.bool), false⟩),
  (22, ⟨.slice 3, 1, 24, some (.nils), some (.lst (.int .i64)), false⟩),
  (23, ⟨.slice 61, 1, 24, some (.nils), some (.lst (.vtx)), false⟩),
  (27, ⟨.slice 62, 1, 24, some (.nils), some (.lst (.vtx)), false⟩),
  (36, ⟨.slice 5, 1, 24, some (.nils), some (.lst (.int .u8)), false⟩),
  (49, ⟨.slice 27, 1, 24, some (.nils), some (.lst (.lst (.vtx))), false⟩),
  (50, ⟨.slice 93, 1, 24, some (.nils), some (.lst (.ppl)), false⟩),
  (82, ⟨.slice 80, 1, 24, some (.nils), none, false⟩),
  (117, ⟨.slice 120, 1, 24, some (.nils), none, false⟩),
  (74, ⟨.slice 3, 1, 24, some (.nils), some (.lst (.int .i64)), false⟩),
  (52, ⟨.struct [(22, 0, 1), (22, 1, 1), (3, 2, 1), (49, 3, 1), (50, 4, 1)], 5, 104, some (.agg [.nils, .nils, .int .i64 0, .nils, .nils]), some (.wrl), false⟩),
  (61, ⟨.struct [(3, 0, 1), (3, 1, 1), (22, 2, 1), (3, 3, 1)], 4, 48, some (.agg [.int .i64 0, .int .i64 0, .nils, .int .i64 0]), some (.vtx), false⟩),
  (62, ⟨.struct [(3, 0, 1), (3, 1, 1), (22, 2, 1), (3, 3, 1)], 4, 48, some (.agg [.int .i64 0, .int .i64 0, .nils, .int .i64 0]), some (.vtx), false⟩),
  (84, ⟨.struct [(62, 0, 4), (3, 4, 1), (82, 5, 1)], 6, 80, some (.agg [.int .i64 0, .int .i64 0, .nils, .int .i64 0, .int .i64 0, .nils]), none, false⟩),
  (93, ⟨.struct [(62, 0, 4), (22, 4, 1)], 5, 72, some (.agg [.int .i64 0, .int .i64 0, .nils, .int .i64 0, .nils]), some (.ppl), false⟩),
  (101, ⟨.struct [(74, 0, 1), (82, 1, 1), (99, 2, 217)], 219, 1784, some (.agg [.nils, .nils, .nilp, .nilp, .nilp, .nilp, .nilp, .nilp, .nilp, .nilp, .nilp, .nilp, .nilp, .nilp, .nilp, .nilp, .nilp, .nilp, .nilp, .nilp, .nilp, .nilp, .nilp, .nilp, .nilp, .nilp, .nilp, .nilp, .nilp, .nilp, .nilp, .nilp, .nilp, .nilp, .nilp, .nilp, .nilp, .nilp, .nilp, .nilp, .nilp, .nilp, .nilp, .nilp, .nilp, .nilp, .nilp, .nilp, .nilp, .nilp, .nilp, .nilp, .nilp, .nilp, .nilp, .nilp, .nilp, .nilp, .nilp, .nilp, .nilp, .nilp, .nilp, .nilp, .nilp, .nilp, .nilp, .nilp, .nilp, .nilp, .nilp, .nilp, .nilp, .nilp, .nilp, .nilp, .nilp, .nilp, .nilp, .nilp, .nilp, .nilp, .nilp, .nilp, .nilp, .nilp, .nilp, .nilp, .nilp, .nilp, .nilp, .nilp, .nilp, .nilp, .nilp, .nilp, .nilp, .nilp, .nilp, .nilp, .nilp, .nilp, .nilp, .nilp, .nilp, .nilp, .nilp, .nilp, .nilp, .nilp, .nilp, .nilp, .nilp, .nilp, .nilp, .nilp, .nilp, .nilp, .nilp, .nilp, .nilp, .nilp, .nilp, .nilp, .nilp, .nilp, .nilp, .nilp, .nilp, .nilp, .nilp, .nilp, .nilp, .nilp, .nilp, .nilp, .nilp, .nilp, .nilp, .nilp, .nilp, .nilp, .nilp, .nilp, .nilp, .nilp, .nilp, .nilp, .nilp, .nilp, .nilp, .nilp, .nilp, .nilp, .nilp, .nilp, .nilp, .nilp, .nilp, .nilp, .nilp, .nilp, .nilp, .nilp, .nilp, .nilp, .nilp, .nilp, .nilp, .nilp, .nilp, .nilp, .nilp, .nilp, .nilp, .nilp, .nilp, .nilp, .nilp, .nilp, .nilp, .nilp, .nilp, .nilp, .nilp, .nilp, .nilp, .nilp, .nilp, .nilp, .nilp, .nilp, .nilp, .nilp, .nilp, .nilp, .nilp, .nilp, .nilp, .nilp, .nilp, .nilp, .nilp, .nilp, .nilp, .nilp, .nilp, .nilp, .nilp, .nilp, .nilp, .nilp, .nilp, .nilp, .nilp, .nilp, .nilp, .nilp, .nilp]), none, false⟩),
  (106, ⟨.struct [(36, 0, 1), (3, 1, 1)], 2, 32, some (.agg [.nils, .int .i64 0]), none, false⟩),
  (111, ⟨.struct [], 0, 0, some (.agg []), none, false⟩),
  (114, ⟨.struct [(21, 0, 1), (112, 1, 1)], 2, 8, some (.agg [.int .i32 0, .int .u32 0]), none, false⟩),
  (116, ⟨.struct [(111, 0, 0), (114, 0, 2)], 2, 8, some (.agg [.int .i32 0, .int .u32 0]), none, false⟩),
  (119, ⟨.struct [(116, 0, 2), (74, 2, 1), (22, 3, 1), (3, 4, 1), (117, 5, 1), (50, 6, 1)], 7, 112, some (.agg [.int .i32 0, .int .u32 0, .nils, .nils, .int .i64 0, .nils, .nils]), none, false⟩),
  (64, ⟨.ptr 101, 1, 8, some (.nilp), none, false⟩),
  (76, ⟨.ptr 106, 1, 8, some (.nilp), none, false⟩),
  (80, ⟨.ptr 84, 1, 8, some (.nilp), none, false⟩),
  (87, ⟨.ptr 119, 1, 8, some (.nilp), none, false⟩),
  (98, ⟨.arr 7 80, 7, 56, some (.agg [.nilp, .nilp, .nilp, .nilp, .nilp, .nilp, .nilp]), none, false⟩),
  (99, ⟨.arr 31 98, 217, 1736, some (.agg [.nilp, .nilp, .nilp, .nilp, .nilp, .nilp, .nilp, .nilp, .nilp, .nilp, .nilp, .nilp, .nilp, .nilp, .nilp, .nilp, .nilp, .nilp, .nilp, .nilp, .nilp, .nilp, .nilp, .nilp, .nilp, .nilp, .nilp, .nilp, .nilp, .nilp, .nilp, .nilp, .nilp, .nilp, .nilp, .nilp, .nilp, .nilp, .nilp, .nilp, .nilp, .nilp, .nilp, .nilp, .nilp, .nilp, .nilp, .nilp, .nilp, .nilp, .nilp, .nilp, .nilp, .nilp, .nilp, .nilp, .nilp, .nilp, .nilp, .nilp, .nilp, .nilp, .nilp, .nilp, .nilp, .nilp, .nilp, .nilp, .nilp, .nilp, .nilp, .nilp, .nilp, .nilp, .nilp, .nilp, .nilp, .nilp, .nilp, .nilp, .nilp, .nilp, .nilp, .nilp, .nilp, .nilp, .nilp, .nilp, .nilp, .nilp, .nilp, .nilp, .nilp, .nilp, .nilp, .nilp, .nilp, .nilp, .nilp, .nilp, .nilp, .nilp, .nilp, .nilp, .nilp, .nilp, .nilp, .nilp, .nilp, .nilp, .nilp, .nilp, .nilp, .nilp, .nilp, .nilp, .nilp, .nilp, .nilp, .nilp, .nilp, .nilp, .nilp, .nilp, .nilp, .nilp, .nilp, .nilp, .nilp, .nilp, .nilp, .nilp, .nilp, .nilp, .nilp, .nilp, .nilp, .nilp, .nilp, .nilp, .nilp, .nilp, .nilp, .nilp, .nilp, .nilp, .nilp, .nilp, .nilp, .nilp, .nilp, .nilp, .nilp, .nilp, .nilp, .nilp, .nilp, .nilp, .nilp, .nilp, .nilp, .nilp, .nilp, .nilp, .nilp, .nilp, .nilp, .nilp, .nilp, .nilp, .nilp, .nilp, .nilp, .nilp, .nilp, .nilp, .nilp, .nilp, .nilp, .nilp, .nilp, .nilp, .nilp, .nilp, .nilp, .nilp, .nilp, .nilp, .nilp, .nilp, .nilp, .nilp, .nilp, .nilp, .nilp, .nilp, .nilp, .nilp, .nilp, .nilp, .nilp, .nilp, .nilp, .nilp, .nilp, .nilp, .nilp, .nilp, .nilp, .nilp, .nilp, .nilp, .nilp, .nilp, .nilp, .nilp, .nilp]), none, false⟩),
  (120, ⟨.ptr 132, 1, 8, some (.nilp), none, false⟩),
  (129, ⟨.ptr 62, 1, 8, some (.nilp), none, false⟩),
  (130, ⟨.arr 7 129, 7, 56, some (.agg [.nilp, .nilp, .nilp, .nilp, .nilp, .nilp, .nilp]), none, false⟩),
  (132, ⟨.arr 31 130, 217, 1736, some (.agg [.nilp, .nilp, .nilp, .nilp, .nilp, .nilp, .nilp, .nilp, .nilp, .nilp, .nilp, .nilp, .nilp, .nilp, .nilp, .nilp, .nilp, .nilp, .nilp, .nilp, .nilp, .nilp, .nilp, .nilp, .nilp, .nilp, .nilp, .nilp, .nilp, .nilp, .nilp, .nilp, .nilp, .nilp, .nilp, .nilp, .nilp, .nilp, .nilp, .nilp, .nilp, .nilp, .nilp, .nilp, .nilp, .nilp, .nilp, .nilp, .nilp, .nilp, .nilp, .nilp, .nilp, .nilp, .nilp, .nilp, .nilp, .nilp, .nilp, .nilp, .nilp, .nilp, .nilp, .nilp, .nilp, .nilp, .nilp, .nilp, .nilp, .nilp, .nilp, .nilp, .nilp, .nilp, .nilp, .nilp, .nilp, .nilp, .nilp, .nilp, .nilp, .nilp, .nilp, .nilp, .nilp, .nilp, .nilp, .nilp, .nilp, .nilp, .nilp, .nilp, .nilp, .nilp, .nilp, .nilp, .nilp, .nilp, .nilp, .nilp, .nilp, .nilp, .nilp, .nilp, .nilp, .nilp, .nilp, .nilp, .nilp, .nilp, .nilp, .nilp, .nilp, .nilp, .nilp, .nilp, .nilp, .nilp, .nilp, .nilp, .nilp, .nilp, .nilp, .nilp, .nilp, .nilp, .nilp, .nilp, .nilp, .nilp, .nilp, .nilp, .nilp, .nilp, .nilp, .nilp, .nilp, .nilp, .nilp, .nilp, .nilp, .nilp, .nilp, .nilp, .nilp, .nilp, .nilp, .nilp, .nilp, .nilp, .nilp, .nilp, .nilp, .nilp, .nilp, .nilp, .nilp, .nilp, .nilp, .nilp, .nilp, .nilp, .nilp, .nilp, .nilp, .nilp, .nilp, .nilp, .nilp, .nilp, .nilp, .nilp, .nilp, .nilp, .nilp, .nilp, .nilp, .nilp, .nilp, .nilp, .nilp, .nilp, .nilp, .nilp, .nilp, .nilp, .nilp, .nilp, .nilp, .nilp, .nilp, .nilp, .nilp, .nilp, .nilp, .nilp, .nilp, .nilp, .nilp, .nilp, .nilp, .nilp, .nilp, .nilp, .nilp, .nilp, .nilp, .nilp, .nilp, .nilp, .nilp, .nilp, .nilp, .nilp, .nilp, .nilp, .nilp]), none, false⟩)]
theorem Θ_ok : TT.ok Try.prog Θ := TT.okB_ok (by kernel_rfl)
theorem mixed : Try.prog.follows .mixedOrders = true := by kernel_rfl
end Go.Proofs.Ytkclhekkcffpoaa.Am
