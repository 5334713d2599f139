/- Closed facts on the types of the program. Conditions: none. -/
import Derived.Test.YtijkfooafoghjaaBd
import Derived.Test.YtijkfooafoghjaaProg
namespace Go.Proofs.Ytijkfooafoghjaa
open Go Go.Ro
theorem Ty.mixed : Try.prog.follows .mixedOrders = true := by kernel_rfl
theorem Ty.o2 : OneC Try.prog 2 := ⟨_, Try.underlying2, rfl⟩
theorem Ty.s2 : (Try.prog.info? 2).map (·.size) = some 1 := by kernel_rfl
theorem Ty.z2 : (Try.prog.info? 2).map (fun i => i.size == 0) = some false := by kernel_rfl
theorem Ty.i2 : Inf Try.prog 2 (.int .i64 0) 1 8 := by unfold Inf; kernel_rfl
theorem Ty.o3 : OneC Try.prog 3 := ⟨_, Try.underlying3, rfl⟩
theorem Ty.s3 : (Try.prog.info? 3).map (·.size) = some 1 := by kernel_rfl
theorem Ty.z3 : (Try.prog.info? 3).map (fun i => i.size == 0) = some false := by kernel_rfl
theorem Ty.i3 : Inf Try.prog 3 (.int .i64 0) 1 8 := by unfold Inf; kernel_rfl
theorem Ty.o4 : OneC Try.prog 4 := ⟨_, Try.underlying4, rfl⟩
theorem Ty.s4 : (Try.prog.info? 4).map (·.size) = some 1 := by kernel_rfl
theorem Ty.z4 : (Try.prog.info? 4).map (fun i => i.size == 0) = some false := by kernel_rfl
theorem Ty.i4 : Inf Try.prog 4 (.bool false) 1 1 := by unfold Inf; kernel_rfl
theorem Ty.o5 : OneC Try.prog 5 := ⟨_, Try.underlying5, rfl⟩
theorem Ty.s5 : (Try.prog.info? 5).map (·.size) = some 1 := by kernel_rfl
theorem Ty.z5 : (Try.prog.info? 5).map (fun i => i.size == 0) = some false := by kernel_rfl
theorem Ty.i5 : Inf Try.prog 5 (.int .u8 0) 1 1 := by unfold Inf; kernel_rfl
theorem Ty.o6 : OneC Try.prog 6 := ⟨_, Try.underlying6, rfl⟩
theorem Ty.s6 : (Try.prog.info? 6).map (·.size) = some 1 := by kernel_rfl
theorem Ty.z6 : (Try.prog.info? 6).map (fun i => i.size == 0) = some false := by kernel_rfl
theorem Ty.i6 : Inf Try.prog 6 (.int .u8 0) 1 1 := by unfold Inf; kernel_rfl
theorem Ty.a7 : AggC Try.prog 7 := ⟨_, Try.underlying7, rfl⟩
theorem Ty.s7 : (Try.prog.info? 7).map (·.size) = some 4 := by kernel_rfl
theorem Ty.p7 : plc Try.prog 7 = some [(0, 1), (1, 1), (2, 1), (3, 1)] := by kernel_rfl
theorem Ty.z7 : (Try.prog.info? 7).map (fun i => i.size == 0) = some false := by kernel_rfl
theorem Ty.i7 : Inf Try.prog 7 (.agg #[(.int .i64 0), (.int .i64 0), (.bool false), (.int .u8 0)]) 4 24 := by unfold Inf; kernel_rfl
theorem Ty.a8 : AggC Try.prog 8 := ⟨_, Try.underlying8, rfl⟩
theorem Ty.s8 : (Try.prog.info? 8).map (·.size) = some 4 := by kernel_rfl
theorem Ty.p8 : plc Try.prog 8 = some [(0, 1), (1, 1), (2, 1), (3, 1)] := by kernel_rfl
theorem Ty.z8 : (Try.prog.info? 8).map (fun i => i.size == 0) = some false := by kernel_rfl
theorem Ty.i8 : Inf Try.prog 8 (.agg #[(.int .i64 0), (.int .i64 0), (.bool false), (.int .u8 0)]) 4 24 := by unfold Inf; kernel_rfl
theorem Ty.o9 : OneC Try.prog 9 := ⟨_, Try.underlying9, rfl⟩
theorem Ty.s9 : (Try.prog.info? 9).map (·.size) = some 1 := by kernel_rfl
theorem Ty.z9 : (Try.prog.info? 9).map (fun i => i.size == 0) = some false := by kernel_rfl
theorem Ty.i9 : Inf Try.prog 9 (.string ByteArray.empty) 1 16 := by unfold Inf; kernel_rfl
theorem Ty.o10 : OneC Try.prog 10 := ⟨_, Try.underlying10, rfl⟩
theorem Ty.s10 : (Try.prog.info? 10).map (·.size) = some 1 := by kernel_rfl
theorem Ty.z10 : (Try.prog.info? 10).map (fun i => i.size == 0) = some false := by kernel_rfl
theorem Ty.i10 : Inf Try.prog 10 (.string ByteArray.empty) 1 16 := by unfold Inf; kernel_rfl
theorem Ty.o11 : OneC Try.prog 11 := ⟨_, Try.underlying11, rfl⟩
theorem Ty.s11 : (Try.prog.info? 11).map (·.size) = some 1 := by kernel_rfl
theorem Ty.z11 : (Try.prog.info? 11).map (fun i => i.size == 0) = some false := by kernel_rfl
theorem Ty.i11 : Inf Try.prog 11 (.string ByteArray.empty) 1 16 := by unfold Inf; kernel_rfl
theorem Ty.o12 : OneC Try.prog 12 := ⟨_, Try.underlying12, rfl⟩
theorem Ty.s12 : (Try.prog.info? 12).map (·.size) = some 1 := by kernel_rfl
theorem Ty.z12 : (Try.prog.info? 12).map (fun i => i.size == 0) = some false := by kernel_rfl
theorem Ty.i12 : Inf Try.prog 12 (.int .u64 0) 1 8 := by unfold Inf; kernel_rfl
theorem Ty.a13 : AggC Try.prog 13 := ⟨_, Try.underlying13, rfl⟩
theorem Ty.s13 : (Try.prog.info? 13).map (·.size) = some 2 := by kernel_rfl
theorem Ty.p13 : plc Try.prog 13 = some [(0, 1), (1, 1)] := by kernel_rfl
theorem Ty.z13 : (Try.prog.info? 13).map (fun i => i.size == 0) = some false := by kernel_rfl
theorem Ty.i13 : Inf Try.prog 13 (.agg #[(.string ByteArray.empty), (.int .u64 0)]) 2 24 := by unfold Inf; kernel_rfl
theorem Ty.a14 : AggC Try.prog 14 := ⟨_, Try.underlying14, rfl⟩
theorem Ty.s14 : (Try.prog.info? 14).map (·.size) = some 2 := by kernel_rfl
theorem Ty.p14 : plc Try.prog 14 = some [(0, 1), (1, 1)] := by kernel_rfl
theorem Ty.z14 : (Try.prog.info? 14).map (fun i => i.size == 0) = some false := by kernel_rfl
theorem Ty.i14 : Inf Try.prog 14 (.agg #[(.string ByteArray.empty), (.int .u64 0)]) 2 24 := by unfold Inf; kernel_rfl
theorem Ty.o15 : OneC Try.prog 15 := ⟨_, Try.underlying15, rfl⟩
theorem Ty.s15 : (Try.prog.info? 15).map (·.size) = some 1 := by kernel_rfl
theorem Ty.z15 : (Try.prog.info? 15).map (fun i => i.size == 0) = some false := by kernel_rfl
theorem Ty.i15 : Inf Try.prog 15 (.pointer none) 1 8 := by unfold Inf; kernel_rfl
theorem Ty.o16 : OneC Try.prog 16 := ⟨_, Try.underlying16, rfl⟩
theorem Ty.s16 : (Try.prog.info? 16).map (·.size) = some 1 := by kernel_rfl
theorem Ty.z16 : (Try.prog.info? 16).map (fun i => i.size == 0) = some false := by kernel_rfl
theorem Ty.i16 : Inf Try.prog 16 (.pointer none) 1 8 := by unfold Inf; kernel_rfl
theorem Ty.o17 : OneC Try.prog 17 := ⟨_, Try.underlying17, rfl⟩
theorem Ty.s17 : (Try.prog.info? 17).map (·.size) = some 1 := by kernel_rfl
theorem Ty.z17 : (Try.prog.info? 17).map (fun i => i.size == 0) = some false := by kernel_rfl
theorem Ty.i17 : Inf Try.prog 17 (.pointer none) 1 8 := by unfold Inf; kernel_rfl
theorem Ty.a18 : AggC Try.prog 18 := ⟨_, Try.underlying18, rfl⟩
theorem Ty.s18 : (Try.prog.info? 18).map (·.size) = some 1 := by kernel_rfl
theorem Ty.p18 : plc Try.prog 18 = some [(0, 1)] := by kernel_rfl
theorem Ty.z18 : (Try.prog.info? 18).map (fun i => i.size == 0) = some false := by kernel_rfl
theorem Ty.i18 : Inf Try.prog 18 (.agg #[(.pointer none)]) 1 8 := by unfold Inf; kernel_rfl
theorem Ty.a19 : AggC Try.prog 19 := ⟨_, Try.underlying19, rfl⟩
theorem Ty.s19 : (Try.prog.info? 19).map (·.size) = some 1 := by kernel_rfl
theorem Ty.p19 : plc Try.prog 19 = some [(0, 1)] := by kernel_rfl
theorem Ty.z19 : (Try.prog.info? 19).map (fun i => i.size == 0) = some false := by kernel_rfl
theorem Ty.i19 : Inf Try.prog 19 (.agg #[(.pointer none)]) 1 8 := by unfold Inf; kernel_rfl
theorem Ty.o20 : OneC Try.prog 20 := ⟨_, Try.underlying20, rfl⟩
theorem Ty.s20 : (Try.prog.info? 20).map (·.size) = some 1 := by kernel_rfl
theorem Ty.z20 : (Try.prog.info? 20).map (fun i => i.size == 0) = some false := by kernel_rfl
theorem Ty.i20 : Inf Try.prog 20 .nilIface 1 16 := by unfold Inf; kernel_rfl
theorem Ty.o21 : OneC Try.prog 21 := ⟨_, Try.underlying21, rfl⟩
theorem Ty.s21 : (Try.prog.info? 21).map (·.size) = some 1 := by kernel_rfl
theorem Ty.z21 : (Try.prog.info? 21).map (fun i => i.size == 0) = some false := by kernel_rfl
theorem Ty.i21 : Inf Try.prog 21 (.int .i32 0) 1 4 := by unfold Inf; kernel_rfl
theorem Ty.o25 : OneC Try.prog 25 := ⟨_, Try.underlying25, rfl⟩
theorem Ty.s25 : (Try.prog.info? 25).map (·.size) = some 1 := by kernel_rfl
theorem Ty.z25 : (Try.prog.info? 25).map (fun i => i.size == 0) = some false := by kernel_rfl
theorem Ty.i25 : Inf Try.prog 25 (.slice none 0 0) 1 24 := by unfold Inf; kernel_rfl
theorem Ty.o30 : OneC Try.prog 30 := ⟨_, Try.underlying30, rfl⟩
theorem Ty.s30 : (Try.prog.info? 30).map (·.size) = some 1 := by kernel_rfl
theorem Ty.z30 : (Try.prog.info? 30).map (fun i => i.size == 0) = some false := by kernel_rfl
theorem Ty.i30 : Inf Try.prog 30 (.slice none 0 0) 1 24 := by unfold Inf; kernel_rfl
theorem Ty.a37 : AggC Try.prog 37 := ⟨_, Try.underlying37, rfl⟩
theorem Ty.s37 : (Try.prog.info? 37).map (·.size) = some 2 := by kernel_rfl
theorem Ty.p37 : plc Try.prog 37 = some [(0, 1), (1, 1)] := by kernel_rfl
theorem Ty.z37 : (Try.prog.info? 37).map (fun i => i.size == 0) = some false := by kernel_rfl
theorem Ty.i37 : Inf Try.prog 37 (.agg #[(.int .i64 0), (.slice none 0 0)]) 2 32 := by unfold Inf; kernel_rfl
theorem Ty.a38 : AggC Try.prog 38 := ⟨_, Try.underlying38, rfl⟩
theorem Ty.s38 : (Try.prog.info? 38).map (·.size) = some 2 := by kernel_rfl
theorem Ty.p38 : plc Try.prog 38 = some [(0, 1), (1, 1)] := by kernel_rfl
theorem Ty.z38 : (Try.prog.info? 38).map (fun i => i.size == 0) = some false := by kernel_rfl
theorem Ty.i38 : Inf Try.prog 38 (.agg #[(.int .i64 0), (.slice none 0 0)]) 2 32 := by unfold Inf; kernel_rfl
theorem Ty.o41 : OneC Try.prog 41 := ⟨_, Try.underlying41, rfl⟩
theorem Ty.s41 : (Try.prog.info? 41).map (·.size) = some 1 := by kernel_rfl
theorem Ty.z41 : (Try.prog.info? 41).map (fun i => i.size == 0) = some false := by kernel_rfl
theorem Ty.i41 : Inf Try.prog 41 .nilIface 1 16 := by unfold Inf; kernel_rfl
theorem Ty.o42 : OneC Try.prog 42 := ⟨_, Try.underlying42, rfl⟩
theorem Ty.s42 : (Try.prog.info? 42).map (·.size) = some 1 := by kernel_rfl
theorem Ty.z42 : (Try.prog.info? 42).map (fun i => i.size == 0) = some false := by kernel_rfl
theorem Ty.i42 : Inf Try.prog 42 .nilIface 1 16 := by unfold Inf; kernel_rfl
theorem Ty.o46 : OneC Try.prog 46 := ⟨_, Try.underlying46, rfl⟩
theorem Ty.s46 : (Try.prog.info? 46).map (·.size) = some 1 := by kernel_rfl
theorem Ty.z46 : (Try.prog.info? 46).map (fun i => i.size == 0) = some false := by kernel_rfl
theorem Ty.i46 : Inf Try.prog 46 (.map none) 1 8 := by unfold Inf; kernel_rfl
theorem Ty.o47 : OneC Try.prog 47 := ⟨_, Try.underlying47, rfl⟩
theorem Ty.s47 : (Try.prog.info? 47).map (·.size) = some 1 := by kernel_rfl
theorem Ty.z47 : (Try.prog.info? 47).map (fun i => i.size == 0) = some false := by kernel_rfl
theorem Ty.i47 : Inf Try.prog 47 (.pointer none) 1 8 := by unfold Inf; kernel_rfl
theorem Ty.o51 : OneC Try.prog 51 := ⟨_, Try.underlying51, rfl⟩
theorem Ty.s51 : (Try.prog.info? 51).map (·.size) = some 1 := by kernel_rfl
theorem Ty.z51 : (Try.prog.info? 51).map (fun i => i.size == 0) = some false := by kernel_rfl
theorem Ty.i51 : Inf Try.prog 51 (.int .i64 0) 1 8 := by unfold Inf; kernel_rfl
theorem Ty.o53 : OneC Try.prog 53 := ⟨_, Try.underlying53, rfl⟩
theorem Ty.s53 : (Try.prog.info? 53).map (·.size) = some 1 := by kernel_rfl
theorem Ty.z53 : (Try.prog.info? 53).map (fun i => i.size == 0) = some false := by kernel_rfl
theorem Ty.i53 : Inf Try.prog 53 (.int .i64 0) 1 8 := by unfold Inf; kernel_rfl
theorem Ty.a54 : AggC Try.prog 54 := ⟨_, Try.underlying54, rfl⟩
theorem Ty.s54 : (Try.prog.info? 54).map (·.size) = some 0 := by kernel_rfl
theorem Ty.p54 : plc Try.prog 54 = some [] := by kernel_rfl
theorem Ty.z54 : (Try.prog.info? 54).map (fun i => i.size == 0) = some true := by kernel_rfl
theorem Ty.i54 : Inf Try.prog 54 (.agg #[]) 0 0 := by unfold Inf; kernel_rfl
theorem Ty.a55 : AggC Try.prog 55 := ⟨_, Try.underlying55, rfl⟩
theorem Ty.s55 : (Try.prog.info? 55).map (·.size) = some 0 := by kernel_rfl
theorem Ty.p55 : plc Try.prog 55 = some [] := by kernel_rfl
theorem Ty.z55 : (Try.prog.info? 55).map (fun i => i.size == 0) = some true := by kernel_rfl
theorem Ty.i55 : Inf Try.prog 55 (.agg #[]) 0 0 := by unfold Inf; kernel_rfl
theorem Ty.a56 : AggC Try.prog 56 := ⟨_, Try.underlying56, rfl⟩
theorem Ty.s56 : (Try.prog.info? 56).map (·.size) = some 2 := by kernel_rfl
theorem Ty.p56 : plc Try.prog 56 = some [(0, 1), (1, 1)] := by kernel_rfl
theorem Ty.z56 : (Try.prog.info? 56).map (fun i => i.size == 0) = some false := by kernel_rfl
theorem Ty.i56 : Inf Try.prog 56 (.agg #[(.slice none 0 0), (.int .i64 0)]) 2 32 := by unfold Inf; kernel_rfl
theorem Ty.a57 : AggC Try.prog 57 := ⟨_, Try.underlying57, rfl⟩
theorem Ty.s57 : (Try.prog.info? 57).map (·.size) = some 2 := by kernel_rfl
theorem Ty.p57 : plc Try.prog 57 = some [(0, 1), (1, 1)] := by kernel_rfl
theorem Ty.z57 : (Try.prog.info? 57).map (fun i => i.size == 0) = some false := by kernel_rfl
theorem Ty.i57 : Inf Try.prog 57 (.agg #[(.slice none 0 0), (.int .i64 0)]) 2 32 := by unfold Inf; kernel_rfl
theorem Ty.a59 : AggC Try.prog 59 := ⟨_, Try.underlying59, rfl⟩
theorem Ty.s59 : (Try.prog.info? 59).map (·.size) = some 4 := by kernel_rfl
theorem Ty.p59 : plc Try.prog 59 = some [(0, 1), (1, 1), (2, 1), (3, 1)] := by kernel_rfl
theorem Ty.z59 : (Try.prog.info? 59).map (fun i => i.size == 0) = some false := by kernel_rfl
theorem Ty.i59 : Inf Try.prog 59 (.agg #[(.pointer none), (.pointer none), (.pointer none), (.string ByteArray.empty)]) 4 40 := by unfold Inf; kernel_rfl
theorem Ty.a60 : AggC Try.prog 60 := ⟨_, Try.underlying60, rfl⟩
theorem Ty.s60 : (Try.prog.info? 60).map (·.size) = some 4 := by kernel_rfl
theorem Ty.p60 : plc Try.prog 60 = some [(0, 1), (1, 1), (2, 1), (3, 1)] := by kernel_rfl
theorem Ty.z60 : (Try.prog.info? 60).map (fun i => i.size == 0) = some false := by kernel_rfl
theorem Ty.i60 : Inf Try.prog 60 (.agg #[(.pointer none), (.pointer none), (.pointer none), (.string ByteArray.empty)]) 4 40 := by unfold Inf; kernel_rfl
theorem Ty.a61 : AggC Try.prog 61 := ⟨_, Try.underlying61, rfl⟩
theorem Ty.s61 : (Try.prog.info? 61).map (·.size) = some 0 := by kernel_rfl
theorem Ty.z61 : (Try.prog.info? 61).map (fun i => i.size == 0) = some true := by kernel_rfl
theorem Ty.i61 : Inf Try.prog 61 (.agg #[]) 0 0 := by unfold Inf; kernel_rfl
theorem Ty.a62 : AggC Try.prog 62 := ⟨_, Try.underlying62, rfl⟩
theorem Ty.s62 : (Try.prog.info? 62).map (·.size) = some 0 := by kernel_rfl
theorem Ty.p62 : plc Try.prog 62 = some [(0, 0)] := by kernel_rfl
theorem Ty.z62 : (Try.prog.info? 62).map (fun i => i.size == 0) = some true := by kernel_rfl
theorem Ty.i62 : Inf Try.prog 62 (.agg #[]) 0 0 := by unfold Inf; kernel_rfl
theorem Ty.a63 : AggC Try.prog 63 := ⟨_, Try.underlying63, rfl⟩
theorem Ty.s63 : (Try.prog.info? 63).map (·.size) = some 0 := by kernel_rfl
theorem Ty.p63 : plc Try.prog 63 = some [(0, 0)] := by kernel_rfl
theorem Ty.z63 : (Try.prog.info? 63).map (fun i => i.size == 0) = some true := by kernel_rfl
theorem Ty.i63 : Inf Try.prog 63 (.agg #[]) 0 0 := by unfold Inf; kernel_rfl
theorem Ty.o65 : OneC Try.prog 65 := ⟨_, Try.underlying65, rfl⟩
theorem Ty.s65 : (Try.prog.info? 65).map (·.size) = some 1 := by kernel_rfl
theorem Ty.z65 : (Try.prog.info? 65).map (fun i => i.size == 0) = some false := by kernel_rfl
theorem Ty.i65 : Inf Try.prog 65 (.int .u32 0) 1 4 := by unfold Inf; kernel_rfl
theorem Ty.o66 : OneC Try.prog 66 := ⟨_, Try.underlying66, rfl⟩
theorem Ty.s66 : (Try.prog.info? 66).map (·.size) = some 1 := by kernel_rfl
theorem Ty.z66 : (Try.prog.info? 66).map (fun i => i.size == 0) = some false := by kernel_rfl
theorem Ty.i66 : Inf Try.prog 66 (.int .u8 0) 1 1 := by unfold Inf; kernel_rfl
theorem Ty.o67 : OneC Try.prog 67 := ⟨_, Try.underlying67, rfl⟩
theorem Ty.s67 : (Try.prog.info? 67).map (·.size) = some 1 := by kernel_rfl
theorem Ty.z67 : (Try.prog.info? 67).map (fun i => i.size == 0) = some false := by kernel_rfl
theorem Ty.i67 : Inf Try.prog 67 (.int .u8 0) 1 1 := by unfold Inf; kernel_rfl
theorem Ty.o69 : OneC Try.prog 69 := ⟨_, Try.underlying69, rfl⟩
theorem Ty.s69 : (Try.prog.info? 69).map (·.size) = some 1 := by kernel_rfl
theorem Ty.z69 : (Try.prog.info? 69).map (fun i => i.size == 0) = some false := by kernel_rfl
theorem Ty.i69 : Inf Try.prog 69 (.pointer none) 1 8 := by unfold Inf; kernel_rfl
theorem Ty.o70 : OneC Try.prog 70 := ⟨_, Try.underlying70, rfl⟩
theorem Ty.s70 : (Try.prog.info? 70).map (·.size) = some 1 := by kernel_rfl
theorem Ty.z70 : (Try.prog.info? 70).map (fun i => i.size == 0) = some false := by kernel_rfl
theorem Ty.i70 : Inf Try.prog 70 (.int .i32 0) 1 4 := by unfold Inf; kernel_rfl
theorem Ty.o71 : OneC Try.prog 71 := ⟨_, Try.underlying71, rfl⟩
theorem Ty.s71 : (Try.prog.info? 71).map (·.size) = some 1 := by kernel_rfl
theorem Ty.z71 : (Try.prog.info? 71).map (fun i => i.size == 0) = some false := by kernel_rfl
theorem Ty.i71 : Inf Try.prog 71 (.int .i32 0) 1 4 := by unfold Inf; kernel_rfl
theorem Ty.a72 : AggC Try.prog 72 := ⟨_, Try.underlying72, rfl⟩
theorem Ty.s72 : (Try.prog.info? 72).map (·.size) = some 11 := by kernel_rfl
theorem Ty.p72 : plc Try.prog 72 = some [(0, 1), (1, 1), (2, 1), (3, 1), (4, 1), (5, 1), (6, 1), (7, 1), (8, 1), (9, 1), (10, 1)] := by kernel_rfl
theorem Ty.z72 : (Try.prog.info? 72).map (fun i => i.size == 0) = some false := by kernel_rfl
theorem Ty.i72 : Inf Try.prog 72 (.agg #[(.int .u64 0), (.int .u64 0), (.int .u32 0), (.int .u8 0), (.int .u8 0), (.int .u8 0), (.int .u8 0), .nilFunc, (.pointer none), (.int .i32 0), (.int .i32 0)]) 11 48 := by unfold Inf; kernel_rfl
theorem Ty.a73 : AggC Try.prog 73 := ⟨_, Try.underlying73, rfl⟩
theorem Ty.s73 : (Try.prog.info? 73).map (·.size) = some 11 := by kernel_rfl
theorem Ty.p73 : plc Try.prog 73 = some [(0, 1), (1, 1), (2, 1), (3, 1), (4, 1), (5, 1), (6, 1), (7, 1), (8, 1), (9, 1), (10, 1)] := by kernel_rfl
theorem Ty.z73 : (Try.prog.info? 73).map (fun i => i.size == 0) = some false := by kernel_rfl
theorem Ty.i73 : Inf Try.prog 73 (.agg #[(.int .u64 0), (.int .u64 0), (.int .u32 0), (.int .u8 0), (.int .u8 0), (.int .u8 0), (.int .u8 0), .nilFunc, (.pointer none), (.int .i32 0), (.int .i32 0)]) 11 48 := by unfold Inf; kernel_rfl
theorem Ty.o74 : OneC Try.prog 74 := ⟨_, Try.underlying74, rfl⟩
theorem Ty.s74 : (Try.prog.info? 74).map (·.size) = some 1 := by kernel_rfl
theorem Ty.z74 : (Try.prog.info? 74).map (fun i => i.size == 0) = some false := by kernel_rfl
theorem Ty.i74 : Inf Try.prog 74 (.pointer none) 1 8 := by unfold Inf; kernel_rfl
end Go.Proofs.Ytijkfooafoghjaa
