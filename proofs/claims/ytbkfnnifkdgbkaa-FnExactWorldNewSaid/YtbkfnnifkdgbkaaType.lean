/- Closed facts on the types of the program. Conditions: those that each row states. -/
import Derived.Test.YtbkfnnifkdgbkaaBd
import Derived.Test.YtbkfnnifkdgbkaaProg
namespace Go.Proofs.Ytbkfnnifkdgbkaa
open Go Go.Ro
theorem Ty.mixed : Try.prog.follows .mixedOrders = true := by kernel_rfl
theorem Ty.o2 : OneC Try.prog 2 := ⟨_, Try.underlying2, rfl⟩
theorem Ty.s2 : (Try.prog.info? 2).map (·.size) = some 1 := by kernel_rfl
theorem Ty.i2 : Inf Try.prog 2 (.int .i64 0) 1 8 := by unfold Inf; kernel_rfl
theorem Ty.o3 : OneC Try.prog 3 := ⟨_, Try.underlying3, rfl⟩
theorem Ty.s3 : (Try.prog.info? 3).map (·.size) = some 1 := by kernel_rfl
theorem Ty.z3 : (Try.prog.info? 3).map (fun i => i.size == 0) = some false := by kernel_rfl
theorem Ty.i3 : Inf Try.prog 3 (.int .i64 0) 1 8 := by unfold Inf; kernel_rfl
theorem Ty.i4 : Inf Try.prog 4 (.bool false) 1 1 := by unfold Inf; kernel_rfl
theorem Ty.o22 : OneC Try.prog 22 := ⟨_, Try.underlying22, rfl⟩
theorem Ty.z22 : (Try.prog.info? 22).map (fun i => i.size == 0) = some false := by kernel_rfl
theorem Ty.i22 : Inf Try.prog 22 (.slice none 0 0) 1 24 := by unfold Inf; kernel_rfl
theorem Ty.o23 : OneC Try.prog 23 := ⟨_, Try.underlying23, rfl⟩
theorem Ty.z23 : (Try.prog.info? 23).map (fun i => i.size == 0) = some false := by kernel_rfl
theorem Ty.o24 : OneC Try.prog 24 := ⟨_, Try.underlying24, rfl⟩
theorem Ty.z24 : (Try.prog.info? 24).map (fun i => i.size == 0) = some false := by kernel_rfl
theorem Ty.o25 : OneC Try.prog 25 := ⟨_, Try.underlying25, rfl⟩
theorem Ty.z25 : (Try.prog.info? 25).map (fun i => i.size == 0) = some false := by kernel_rfl
theorem Ty.a27 : AggC Try.prog 27 := ⟨_, Try.underlying27, rfl⟩
theorem Ty.s27 : (Try.prog.info? 27).map (·.size) = some 2 := by kernel_rfl
theorem Ty.p27 : plc Try.prog 27 = some [(0, 1), (1, 1)] := by kernel_rfl
theorem Ty.z27 : (Try.prog.info? 27).map (fun i => i.size == 0) = some false := by kernel_rfl
theorem Ty.i27 : Inf Try.prog 27 (.agg #[(.int .i64 0), (.slice none 0 0)]) 2 32 := by unfold Inf; kernel_rfl
theorem Ty.a29 : AggC Try.prog 29 := ⟨_, Try.underlying29, rfl⟩
theorem Ty.s29 : (Try.prog.info? 29).map (·.size) = some 7 := by kernel_rfl
theorem Ty.p29 : plc Try.prog 29 = some [(0, 1), (1, 1), (2, 1), (3, 1), (4, 2), (6, 1)] := by kernel_rfl
theorem Ty.i29 : Inf Try.prog 29 (.agg #[(.int .i64 0), (.slice none 0 0), (.slice none 0 0), (.slice none 0 0), (.int .i64 0), (.slice none 0 0), (.slice none 0 0)]) 7 136 := by unfold Inf; kernel_rfl
theorem Ty.a53 : AggC Try.prog 53 := ⟨_, Try.underlying53, rfl⟩
theorem Ty.s53 : (Try.prog.info? 53).map (·.size) = some 3 := by kernel_rfl
theorem Ty.p53 : plc Try.prog 53 = some [(0, 1), (1, 1), (2, 1)] := by kernel_rfl
theorem Ty.i53 : Inf Try.prog 53 (.agg #[(.int .i64 0), (.int .i64 0), (.int .i64 0)]) 3 24 := by unfold Inf; kernel_rfl
theorem Ty.a55 : AggC Try.prog 55 := ⟨_, Try.underlying55, rfl⟩
theorem Ty.s55 : (Try.prog.info? 55).map (·.size) = some 3 := by kernel_rfl
theorem Ty.p55 : plc Try.prog 55 = some [(0, 1), (1, 1), (2, 1)] := by kernel_rfl
theorem Ty.i55 : Inf Try.prog 55 (.agg #[(.int .i64 0), (.int .i64 0), (.slice none 0 0)]) 3 40 := by unfold Inf; kernel_rfl
theorem Ty.a61 : AggC Try.prog 61 := ⟨_, Try.underlying61, rfl⟩
theorem Ty.s61 : (Try.prog.info? 61).map (·.size) = some 2 := by kernel_rfl
theorem Ty.i61 : Inf Try.prog 61 (.agg #[(.int .i64 0), (.int .i64 0)]) 2 16 := by unfold Inf; kernel_rfl
theorem Ty.i64 : Inf Try.prog 64 (.int .i64 0) 1 8 := by unfold Inf; kernel_rfl
end Go.Proofs.Ytbkfnnifkdgbkaa
