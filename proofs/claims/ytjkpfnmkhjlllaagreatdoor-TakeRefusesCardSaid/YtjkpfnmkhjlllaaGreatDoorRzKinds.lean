/- A part of the proof: tables of the program, by name. -/
import Derived.Test.YtjkpfnmkhjlllaaGreatDoorRzTypes
import Derived.Test.YtjkpfnmkhjlllaaGreatDoorRzNames
import Derived.Test.YtjkpfnmkhjlllaaGreatDoorRzActs3
set_option linter.unusedVariables false
set_option linter.unusedSimpArgs false
namespace Go.Rz
def Kt : TabK Go.Proofs.Tryz.prog where
  l := [(3, .i64), (5, .u8), (21, .i32), (22, .u64)]
  ok := List.forall_mem_cons.2 ⟨(by kernel_rfl : Go.Proofs.Tryz.prog.underlying 3 = some (.int .i64)), List.forall_mem_cons.2 ⟨(by kernel_rfl : Go.Proofs.Tryz.prog.underlying 5 = some (.int .u8)), List.forall_mem_cons.2 ⟨(by kernel_rfl : Go.Proofs.Tryz.prog.underlying 21 = some (.int .i32)), List.forall_mem_cons.2 ⟨(by kernel_rfl : Go.Proofs.Tryz.prog.underlying 22 = some (.int .u64)), fun _ h => by cases h⟩⟩⟩⟩
theorem eq_Arc : EqT Go.Proofs.Tryz.prog 24 [(0, .leaf (.int .u64)), (1, .leaf (.int .u64))] := EqT.of (by kernel_rfl)
theorem eq_Ask : EqT Go.Proofs.Tryz.prog 37 [(0, .leaf (.int .i64)), (1, .leaf (.str)), (2, .leaf (.str)), (3, .leaf (.str)), (4, .leaf (.int .i64))] := EqT.of (by kernel_rfl)
theorem eq_Item : EqT Go.Proofs.Tryz.prog 56 [(0, .leaf (.str)), (1, .leaf (.str))] := EqT.of (by kernel_rfl)
theorem eq_Owned : EqT Go.Proofs.Tryz.prog 68 [(0, .sub 2 [(0, .int .u64), (1, .int .u64)]), (2, .leaf (.int .i64)), (3, .leaf (.int .i64))] := EqT.of (by kernel_rfl)
theorem ov_part : IsOv Go.Proofs.Tryz.prog 215 134 4 := ⟨_, Go.Proofs.Tryz.func215, rfl, rfl, by kernel_rfl, by kernel_rfl⟩
theorem ov_Item : IsOv Go.Proofs.Tryz.prog 230 38 4 := ⟨_, Go.Proofs.Tryz.func230, rfl, rfl, by kernel_rfl, by kernel_rfl⟩
theorem ov_node : IsOv Go.Proofs.Tryz.prog 232 207 4 := ⟨_, Go.Proofs.Tryz.func232, rfl, rfl, by kernel_rfl, by kernel_rfl⟩
end Go.Rz
