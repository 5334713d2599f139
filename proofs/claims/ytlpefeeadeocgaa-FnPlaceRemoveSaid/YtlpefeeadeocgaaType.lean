/- Closed facts on the types of the program. Conditions: those that each row states. -/
import Derived.Test.YtlpefeeadeocgaaBd
import Derived.Test.YtlpefeeadeocgaaProg
namespace Go.Proofs.Ytlpefeeadeocgaa
open Go Go.Ro
theorem Ty.mixed : Try.prog.follows .mixedOrders = true := by kernel_rfl
theorem Ty.o3 : OneC Try.prog 3 := ⟨_, Try.underlying3, rfl⟩
theorem Ty.s3 : (Try.prog.info? 3).map (·.size) = some 1 := by kernel_rfl
theorem Ty.z3 : (Try.prog.info? 3).map (fun i => i.size == 0) = some false := by kernel_rfl
theorem Ty.i3 : Inf Try.prog 3 (.int .i64 0) 1 8 := by unfold Inf; kernel_rfl
theorem Ty.z4 : (Try.prog.info? 4).map (fun i => i.size == 0) = some false := by kernel_rfl
theorem Ty.o5 : OneC Try.prog 5 := ⟨_, Try.underlying5, rfl⟩
theorem Ty.s5 : (Try.prog.info? 5).map (·.size) = some 1 := by kernel_rfl
theorem Ty.z5 : (Try.prog.info? 5).map (fun i => i.size == 0) = some false := by kernel_rfl
theorem Ty.z9 : (Try.prog.info? 9).map (fun i => i.size == 0) = some false := by kernel_rfl
theorem Ty.o22 : OneC Try.prog 22 := ⟨_, Try.underlying22, rfl⟩
theorem Ty.z22 : (Try.prog.info? 22).map (fun i => i.size == 0) = some false := by kernel_rfl
theorem Ty.z23 : (Try.prog.info? 23).map (fun i => i.size == 0) = some false := by kernel_rfl
theorem Ty.o26 : OneC Try.prog 26 := ⟨_, Try.underlying26, rfl⟩
theorem Ty.z26 : (Try.prog.info? 26).map (fun i => i.size == 0) = some false := by kernel_rfl
theorem Ty.i26 : Inf Try.prog 26 (.slice none 0 0) 1 24 := by unfold Inf; kernel_rfl
theorem Ty.a44 : AggC Try.prog 44 := ⟨_, Try.underlying44, rfl⟩
theorem Ty.z44 : (Try.prog.info? 44).map (fun i => i.size == 0) = some false := by kernel_rfl
theorem Ty.a45 : AggC Try.prog 45 := ⟨_, Try.underlying45, rfl⟩
theorem Ty.s45 : (Try.prog.info? 45).map (·.size) = some 2 := by kernel_rfl
theorem Ty.p45 : plc Try.prog 45 = some [(0, 1), (1, 1)] := by kernel_rfl
theorem Ty.i45 : Inf Try.prog 45 (.agg #[(.int .i64 0), (.int .i64 0)]) 2 16 := by unfold Inf; kernel_rfl
theorem Ty.p55 : plc Try.prog 55 = some [(0, 1), (1, 1)] := by kernel_rfl
theorem Ty.i55 : Inf Try.prog 55 (.agg #[(.slice none 0 0), (.int .i64 0)]) 2 32 := by unfold Inf; kernel_rfl
end Go.Proofs.Ytlpefeeadeocgaa
