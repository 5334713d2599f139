/- Closed facts on the types of the program. Conditions: none. -/
import Derived.Test.YtnjijnlckbaggaaBd
import Derived.Test.YtnjijnlckbaggaaProg
namespace Go.Proofs.Ytnjijnlckbaggaa
open Go Go.Ro
theorem Ty.mixed : Try.prog.follows .mixedOrders = true := by kernel_rfl
theorem Ty.o2 : OneC Try.prog 2 := ⟨_, Try.underlying2, rfl⟩
theorem Ty.s2 : (Try.prog.info? 2).map (·.size) = some 1 := by kernel_rfl
theorem Ty.z2 : (Try.prog.info? 2).map (fun i => i.size == 0) = some false := by kernel_rfl
theorem Ty.i2 : Inf Try.prog 2 (.int .i64 0) 1 8 := by unfold Inf; kernel_rfl
theorem Ty.o3 : OneC Try.prog 3 := ⟨_, Try.underlying3, rfl⟩
theorem Ty.s3 : (Try.prog.info? 3).map (·.size) = some 1 := by kernel_rfl
theorem Ty.z3 : (Try.prog.info? 3).map (fun i => i.size == 0) = some false := by kernel_rfl
theorem Ty.i3 : Inf Try.prog 3 (.int .i64 0) 1 8 := by unfold Inf; kernel_rfl
theorem Ty.o4 : OneC Try.prog 4 := ⟨_, Try.underlying4, rfl⟩
theorem Ty.s4 : (Try.prog.info? 4).map (·.size) = some 1 := by kernel_rfl
theorem Ty.z4 : (Try.prog.info? 4).map (fun i => i.size == 0) = some false := by kernel_rfl
theorem Ty.i4 : Inf Try.prog 4 (.bool false) 1 1 := by unfold Inf; kernel_rfl
theorem Ty.o5 : OneC Try.prog 5 := ⟨_, Try.underlying5, rfl⟩
theorem Ty.s5 : (Try.prog.info? 5).map (·.size) = some 1 := by kernel_rfl
theorem Ty.z5 : (Try.prog.info? 5).map (fun i => i.size == 0) = some false := by kernel_rfl
theorem Ty.i5 : Inf Try.prog 5 (.int .u8 0) 1 1 := by unfold Inf; kernel_rfl
theorem Ty.o6 : OneC Try.prog 6 := ⟨_, Try.underlying6, rfl⟩
theorem Ty.s6 : (Try.prog.info? 6).map (·.size) = some 1 := by kernel_rfl
theorem Ty.z6 : (Try.prog.info? 6).map (fun i => i.size == 0) = some false := by kernel_rfl
theorem Ty.i6 : Inf Try.prog 6 (.int .u8 0) 1 1 := by unfold Inf; kernel_rfl
theorem Ty.a7 : AggC Try.prog 7 := ⟨_, Try.underlying7, rfl⟩
theorem Ty.s7 : (Try.prog.info? 7).map (·.size) = some 4 := by kernel_rfl
theorem Ty.p7 : plc Try.prog 7 = some [(0, 1), (1, 1), (2, 1), (3, 1)] := by kernel_rfl
theorem Ty.z7 : (Try.prog.info? 7).map (fun i => i.size == 0) = some false := by kernel_rfl
theorem Ty.i7 : Inf Try.prog 7 (.agg #[(.int .i64 0), (.int .i64 0), (.bool false), (.int .u8 0)]) 4 24 := by unfold Inf; kernel_rfl
theorem Ty.a8 : AggC Try.prog 8 := ⟨_, Try.underlying8, rfl⟩
theorem Ty.s8 : (Try.prog.info? 8).map (·.size) = some 4 := by kernel_rfl
theorem Ty.p8 : plc Try.prog 8 = some [(0, 1), (1, 1), (2, 1), (3, 1)] := by kernel_rfl
theorem Ty.z8 : (Try.prog.info? 8).map (fun i => i.size == 0) = some false := by kernel_rfl
theorem Ty.i8 : Inf Try.prog 8 (.agg #[(.int .i64 0), (.int .i64 0), (.bool false), (.int .u8 0)]) 4 24 := by unfold Inf; kernel_rfl
theorem Ty.o9 : OneC Try.prog 9 := ⟨_, Try.underlying9, rfl⟩
theorem Ty.s9 : (Try.prog.info? 9).map (·.size) = some 1 := by kernel_rfl
theorem Ty.z9 : (Try.prog.info? 9).map (fun i => i.size == 0) = some false := by kernel_rfl
theorem Ty.i9 : Inf Try.prog 9 (.string ByteArray.empty) 1 16 := by unfold Inf; kernel_rfl
theorem Ty.o10 : OneC Try.prog 10 := ⟨_, Try.underlying10, rfl⟩
theorem Ty.s10 : (Try.prog.info? 10).map (·.size) = some 1 := by kernel_rfl
theorem Ty.z10 : (Try.prog.info? 10).map (fun i => i.size == 0) = some false := by kernel_rfl
theorem Ty.i10 : Inf Try.prog 10 (.string ByteArray.empty) 1 16 := by unfold Inf; kernel_rfl
theorem Ty.o11 : OneC Try.prog 11 := ⟨_, Try.underlying11, rfl⟩
theorem Ty.s11 : (Try.prog.info? 11).map (·.size) = some 1 := by kernel_rfl
theorem Ty.z11 : (Try.prog.info? 11).map (fun i => i.size == 0) = some false := by kernel_rfl
theorem Ty.i11 : Inf Try.prog 11 (.string ByteArray.empty) 1 16 := by unfold Inf; kernel_rfl
theorem Ty.o12 : OneC Try.prog 12 := ⟨_, Try.underlying12, rfl⟩
theorem Ty.s12 : (Try.prog.info? 12).map (·.size) = some 1 := by kernel_rfl
theorem Ty.z12 : (Try.prog.info? 12).map (fun i => i.size == 0) = some false := by kernel_rfl
theorem Ty.i12 : Inf Try.prog 12 (.int .u64 0) 1 8 := by unfold Inf; kernel_rfl
theorem Ty.a13 : AggC Try.prog 13 := ⟨_, Try.underlying13, rfl⟩
theorem Ty.s13 : (Try.prog.info? 13).map (·.size) = some 2 := by kernel_rfl
theorem Ty.p13 : plc Try.prog 13 = some [(0, 1), (1, 1)] := by kernel_rfl
theorem Ty.z13 : (Try.prog.info? 13).map (fun i => i.size == 0) = some false := by kernel_rfl
theorem Ty.i13 : Inf Try.prog 13 (.agg #[(.string ByteArray.empty), (.int .u64 0)]) 2 24 := by unfold Inf; kernel_rfl
theorem Ty.a14 : AggC Try.prog 14 := ⟨_, Try.underlying14, rfl⟩
theorem Ty.s14 : (Try.prog.info? 14).map (·.size) = some 2 := by kernel_rfl
theorem Ty.p14 : plc Try.prog 14 = some [(0, 1), (1, 1)] := by kernel_rfl
theorem Ty.z14 : (Try.prog.info? 14).map (fun i => i.size == 0) = some false := by kernel_rfl
theorem Ty.i14 : Inf Try.prog 14 (.agg #[(.string ByteArray.empty), (.int .u64 0)]) 2 24 := by unfold Inf; kernel_rfl
theorem Ty.o15 : OneC Try.prog 15 := ⟨_, Try.underlying15, rfl⟩
theorem Ty.s15 : (Try.prog.info? 15).map (·.size) = some 1 := by kernel_rfl
theorem Ty.z15 : (Try.prog.info? 15).map (fun i => i.size == 0) = some false := by kernel_rfl
theorem Ty.i15 : Inf Try.prog 15 (.pointer none) 1 8 := by unfold Inf; kernel_rfl
theorem Ty.o16 : OneC Try.prog 16 := ⟨_, Try.underlying16, rfl⟩
theorem Ty.s16 : (Try.prog.info? 16).map (·.size) = some 1 := by kernel_rfl
theorem Ty.z16 : (Try.prog.info? 16).map (fun i => i.size == 0) = some false := by kernel_rfl
theorem Ty.i16 : Inf Try.prog 16 (.pointer none) 1 8 := by unfold Inf; kernel_rfl
theorem Ty.o17 : OneC Try.prog 17 := ⟨_, Try.underlying17, rfl⟩
theorem Ty.s17 : (Try.prog.info? 17).map (·.size) = some 1 := by kernel_rfl
theorem Ty.z17 : (Try.prog.info? 17).map (fun i => i.size == 0) = some false := by kernel_rfl
theorem Ty.i17 : Inf Try.prog 17 (.pointer none) 1 8 := by unfold Inf; kernel_rfl
theorem Ty.a18 : AggC Try.prog 18 := ⟨_, Try.underlying18, rfl⟩
theorem Ty.s18 : (Try.prog.info? 18).map (·.size) = some 1 := by kernel_rfl
theorem Ty.p18 : plc Try.prog 18 = some [(0, 1)] := by kernel_rfl
theorem Ty.z18 : (Try.prog.info? 18).map (fun i => i.size == 0) = some false := by kernel_rfl
theorem Ty.i18 : Inf Try.prog 18 (.agg #[(.pointer none)]) 1 8 := by unfold Inf; kernel_rfl
theorem Ty.a19 : AggC Try.prog 19 := ⟨_, Try.underlying19, rfl⟩
theorem Ty.s19 : (Try.prog.info? 19).map (·.size) = some 1 := by kernel_rfl
theorem Ty.p19 : plc Try.prog 19 = some [(0, 1)] := by kernel_rfl
theorem Ty.z19 : (Try.prog.info? 19).map (fun i => i.size == 0) = some false := by kernel_rfl
theorem Ty.i19 : Inf Try.prog 19 (.agg #[(.pointer none)]) 1 8 := by unfold Inf; kernel_rfl
theorem Ty.o20 : OneC Try.prog 20 := ⟨_, Try.underlying20, rfl⟩
theorem Ty.s20 : (Try.prog.info? 20).map (·.size) = some 1 := by kernel_rfl
theorem Ty.z20 : (Try.prog.info? 20).map (fun i => i.size == 0) = some false := by kernel_rfl
theorem Ty.i20 : Inf Try.prog 20 .nilIface 1 16 := by unfold Inf; kernel_rfl
theorem Ty.o21 : OneC Try.prog 21 := ⟨_, Try.underlying21, rfl⟩
theorem Ty.s21 : (Try.prog.info? 21).map (·.size) = some 1 := by kernel_rfl
theorem Ty.z21 : (Try.prog.info? 21).map (fun i => i.size == 0) = some false := by kernel_rfl
theorem Ty.i21 : Inf Try.prog 21 (.int .i32 0) 1 4 := by unfold Inf; kernel_rfl
theorem Ty.o22 : OneC Try.prog 22 := ⟨_, Try.underlying22, rfl⟩
theorem Ty.s22 : (Try.prog.info? 22).map (·.size) = some 1 := by kernel_rfl
theorem Ty.z22 : (Try.prog.info? 22).map (fun i => i.size == 0) = some false := by kernel_rfl
theorem Ty.i22 : Inf Try.prog 22 (.slice none 0 0) 1 24 := by unfold Inf; kernel_rfl
theorem Ty.o30 : OneC Try.prog 30 := ⟨_, Try.underlying30, rfl⟩
theorem Ty.s30 : (Try.prog.info? 30).map (·.size) = some 1 := by kernel_rfl
theorem Ty.z30 : (Try.prog.info? 30).map (fun i => i.size == 0) = some false := by kernel_rfl
theorem Ty.i30 : Inf Try.prog 30 (.slice none 0 0) 1 24 := by unfold Inf; kernel_rfl
theorem Ty.o36 : OneC Try.prog 36 := ⟨_, Try.underlying36, rfl⟩
theorem Ty.s36 : (Try.prog.info? 36).map (·.size) = some 1 := by kernel_rfl
theorem Ty.z36 : (Try.prog.info? 36).map (fun i => i.size == 0) = some false := by kernel_rfl
theorem Ty.i36 : Inf Try.prog 36 (.slice none 0 0) 1 24 := by unfold Inf; kernel_rfl
theorem Ty.o46 : OneC Try.prog 46 := ⟨_, Try.underlying46, rfl⟩
theorem Ty.s46 : (Try.prog.info? 46).map (·.size) = some 1 := by kernel_rfl
theorem Ty.z46 : (Try.prog.info? 46).map (fun i => i.size == 0) = some false := by kernel_rfl
theorem Ty.i46 : Inf Try.prog 46 (.pointer none) 1 8 := by unfold Inf; kernel_rfl
theorem Ty.o52 : OneC Try.prog 52 := ⟨_, Try.underlying52, rfl⟩
theorem Ty.s52 : (Try.prog.info? 52).map (·.size) = some 1 := by kernel_rfl
theorem Ty.z52 : (Try.prog.info? 52).map (fun i => i.size == 0) = some false := by kernel_rfl
theorem Ty.i52 : Inf Try.prog 52 .nilIface 1 16 := by unfold Inf; kernel_rfl
theorem Ty.o53 : OneC Try.prog 53 := ⟨_, Try.underlying53, rfl⟩
theorem Ty.s53 : (Try.prog.info? 53).map (·.size) = some 1 := by kernel_rfl
theorem Ty.z53 : (Try.prog.info? 53).map (fun i => i.size == 0) = some false := by kernel_rfl
theorem Ty.i53 : Inf Try.prog 53 .nilIface 1 16 := by unfold Inf; kernel_rfl
theorem Ty.o56 : OneC Try.prog 56 := ⟨_, Try.underlying56, rfl⟩
theorem Ty.s56 : (Try.prog.info? 56).map (·.size) = some 1 := by kernel_rfl
theorem Ty.z56 : (Try.prog.info? 56).map (fun i => i.size == 0) = some false := by kernel_rfl
theorem Ty.i56 : Inf Try.prog 56 (.map none) 1 8 := by unfold Inf; kernel_rfl
theorem Ty.a60 : AggC Try.prog 60 := ⟨_, Try.underlying60, rfl⟩
theorem Ty.s60 : (Try.prog.info? 60).map (·.size) = some 2 := by kernel_rfl
theorem Ty.p60 : plc Try.prog 60 = some [(0, 1), (1, 1)] := by kernel_rfl
theorem Ty.z60 : (Try.prog.info? 60).map (fun i => i.size == 0) = some false := by kernel_rfl
theorem Ty.i60 : Inf Try.prog 60 (.agg #[(.slice none 0 0), (.int .i64 0)]) 2 32 := by unfold Inf; kernel_rfl
theorem Ty.a61 : AggC Try.prog 61 := ⟨_, Try.underlying61, rfl⟩
theorem Ty.s61 : (Try.prog.info? 61).map (·.size) = some 2 := by kernel_rfl
theorem Ty.p61 : plc Try.prog 61 = some [(0, 1), (1, 1)] := by kernel_rfl
theorem Ty.z61 : (Try.prog.info? 61).map (fun i => i.size == 0) = some false := by kernel_rfl
theorem Ty.i61 : Inf Try.prog 61 (.agg #[(.slice none 0 0), (.int .i64 0)]) 2 32 := by unfold Inf; kernel_rfl
theorem Ty.o62 : OneC Try.prog 62 := ⟨_, Try.underlying62, rfl⟩
theorem Ty.s62 : (Try.prog.info? 62).map (·.size) = some 1 := by kernel_rfl
theorem Ty.z62 : (Try.prog.info? 62).map (fun i => i.size == 0) = some false := by kernel_rfl
theorem Ty.i62 : Inf Try.prog 62 (.int .i64 0) 1 8 := by unfold Inf; kernel_rfl
theorem Ty.o63 : OneC Try.prog 63 := ⟨_, Try.underlying63, rfl⟩
theorem Ty.s63 : (Try.prog.info? 63).map (·.size) = some 1 := by kernel_rfl
theorem Ty.z63 : (Try.prog.info? 63).map (fun i => i.size == 0) = some false := by kernel_rfl
theorem Ty.i63 : Inf Try.prog 63 (.int .i64 0) 1 8 := by unfold Inf; kernel_rfl
theorem Ty.a65 : AggC Try.prog 65 := ⟨_, Try.underlying65, rfl⟩
theorem Ty.s65 : (Try.prog.info? 65).map (·.size) = some 0 := by kernel_rfl
theorem Ty.p65 : plc Try.prog 65 = some [] := by kernel_rfl
theorem Ty.z65 : (Try.prog.info? 65).map (fun i => i.size == 0) = some true := by kernel_rfl
theorem Ty.i65 : Inf Try.prog 65 (.agg #[]) 0 0 := by unfold Inf; kernel_rfl
theorem Ty.a66 : AggC Try.prog 66 := ⟨_, Try.underlying66, rfl⟩
theorem Ty.s66 : (Try.prog.info? 66).map (·.size) = some 0 := by kernel_rfl
theorem Ty.p66 : plc Try.prog 66 = some [] := by kernel_rfl
theorem Ty.z66 : (Try.prog.info? 66).map (fun i => i.size == 0) = some true := by kernel_rfl
theorem Ty.i66 : Inf Try.prog 66 (.agg #[]) 0 0 := by unfold Inf; kernel_rfl
theorem Ty.a73 : AggC Try.prog 73 := ⟨_, Try.underlying73, rfl⟩
theorem Ty.s73 : (Try.prog.info? 73).map (·.size) = some 4 := by kernel_rfl
theorem Ty.p73 : plc Try.prog 73 = some [(0, 1), (1, 1), (2, 1), (3, 1)] := by kernel_rfl
theorem Ty.z73 : (Try.prog.info? 73).map (fun i => i.size == 0) = some false := by kernel_rfl
theorem Ty.i73 : Inf Try.prog 73 (.agg #[(.pointer none), (.pointer none), (.pointer none), (.string ByteArray.empty)]) 4 40 := by unfold Inf; kernel_rfl
theorem Ty.a74 : AggC Try.prog 74 := ⟨_, Try.underlying74, rfl⟩
theorem Ty.s74 : (Try.prog.info? 74).map (·.size) = some 4 := by kernel_rfl
theorem Ty.p74 : plc Try.prog 74 = some [(0, 1), (1, 1), (2, 1), (3, 1)] := by kernel_rfl
theorem Ty.z74 : (Try.prog.info? 74).map (fun i => i.size == 0) = some false := by kernel_rfl
theorem Ty.i74 : Inf Try.prog 74 (.agg #[(.pointer none), (.pointer none), (.pointer none), (.string ByteArray.empty)]) 4 40 := by unfold Inf; kernel_rfl
theorem Ty.a75 : AggC Try.prog 75 := ⟨_, Try.underlying75, rfl⟩
theorem Ty.s75 : (Try.prog.info? 75).map (·.size) = some 0 := by kernel_rfl
theorem Ty.z75 : (Try.prog.info? 75).map (fun i => i.size == 0) = some true := by kernel_rfl
theorem Ty.i75 : Inf Try.prog 75 (.agg #[]) 0 0 := by unfold Inf; kernel_rfl
theorem Ty.a76 : AggC Try.prog 76 := ⟨_, Try.underlying76, rfl⟩
theorem Ty.s76 : (Try.prog.info? 76).map (·.size) = some 0 := by kernel_rfl
theorem Ty.p76 : plc Try.prog 76 = some [(0, 0)] := by kernel_rfl
theorem Ty.z76 : (Try.prog.info? 76).map (fun i => i.size == 0) = some true := by kernel_rfl
theorem Ty.i76 : Inf Try.prog 76 (.agg #[]) 0 0 := by unfold Inf; kernel_rfl
theorem Ty.a77 : AggC Try.prog 77 := ⟨_, Try.underlying77, rfl⟩
theorem Ty.s77 : (Try.prog.info? 77).map (·.size) = some 0 := by kernel_rfl
theorem Ty.p77 : plc Try.prog 77 = some [(0, 0)] := by kernel_rfl
theorem Ty.z77 : (Try.prog.info? 77).map (fun i => i.size == 0) = some true := by kernel_rfl
theorem Ty.i77 : Inf Try.prog 77 (.agg #[]) 0 0 := by unfold Inf; kernel_rfl
theorem Ty.o79 : OneC Try.prog 79 := ⟨_, Try.underlying79, rfl⟩
theorem Ty.s79 : (Try.prog.info? 79).map (·.size) = some 1 := by kernel_rfl
theorem Ty.z79 : (Try.prog.info? 79).map (fun i => i.size == 0) = some false := by kernel_rfl
theorem Ty.i79 : Inf Try.prog 79 (.int .u32 0) 1 4 := by unfold Inf; kernel_rfl
theorem Ty.o80 : OneC Try.prog 80 := ⟨_, Try.underlying80, rfl⟩
theorem Ty.s80 : (Try.prog.info? 80).map (·.size) = some 1 := by kernel_rfl
theorem Ty.z80 : (Try.prog.info? 80).map (fun i => i.size == 0) = some false := by kernel_rfl
theorem Ty.i80 : Inf Try.prog 80 (.int .u8 0) 1 1 := by unfold Inf; kernel_rfl
theorem Ty.o81 : OneC Try.prog 81 := ⟨_, Try.underlying81, rfl⟩
theorem Ty.s81 : (Try.prog.info? 81).map (·.size) = some 1 := by kernel_rfl
theorem Ty.z81 : (Try.prog.info? 81).map (fun i => i.size == 0) = some false := by kernel_rfl
theorem Ty.i81 : Inf Try.prog 81 (.int .u8 0) 1 1 := by unfold Inf; kernel_rfl
theorem Ty.o83 : OneC Try.prog 83 := ⟨_, Try.underlying83, rfl⟩
theorem Ty.s83 : (Try.prog.info? 83).map (·.size) = some 1 := by kernel_rfl
theorem Ty.z83 : (Try.prog.info? 83).map (fun i => i.size == 0) = some false := by kernel_rfl
theorem Ty.i83 : Inf Try.prog 83 (.pointer none) 1 8 := by unfold Inf; kernel_rfl
theorem Ty.o84 : OneC Try.prog 84 := ⟨_, Try.underlying84, rfl⟩
theorem Ty.s84 : (Try.prog.info? 84).map (·.size) = some 1 := by kernel_rfl
theorem Ty.z84 : (Try.prog.info? 84).map (fun i => i.size == 0) = some false := by kernel_rfl
theorem Ty.i84 : Inf Try.prog 84 (.int .i32 0) 1 4 := by unfold Inf; kernel_rfl
theorem Ty.o85 : OneC Try.prog 85 := ⟨_, Try.underlying85, rfl⟩
theorem Ty.s85 : (Try.prog.info? 85).map (·.size) = some 1 := by kernel_rfl
theorem Ty.z85 : (Try.prog.info? 85).map (fun i => i.size == 0) = some false := by kernel_rfl
theorem Ty.i85 : Inf Try.prog 85 (.int .i32 0) 1 4 := by unfold Inf; kernel_rfl
theorem Ty.a86 : AggC Try.prog 86 := ⟨_, Try.underlying86, rfl⟩
theorem Ty.s86 : (Try.prog.info? 86).map (·.size) = some 11 := by kernel_rfl
theorem Ty.p86 : plc Try.prog 86 = some [(0, 1), (1, 1), (2, 1), (3, 1), (4, 1), (5, 1), (6, 1), (7, 1), (8, 1), (9, 1), (10, 1)] := by kernel_rfl
theorem Ty.z86 : (Try.prog.info? 86).map (fun i => i.size == 0) = some false := by kernel_rfl
theorem Ty.i86 : Inf Try.prog 86 (.agg #[(.int .u64 0), (.int .u64 0), (.int .u32 0), (.int .u8 0), (.int .u8 0), (.int .u8 0), (.int .u8 0), .nilFunc, (.pointer none), (.int .i32 0), (.int .i32 0)]) 11 48 := by unfold Inf; kernel_rfl
theorem Ty.a87 : AggC Try.prog 87 := ⟨_, Try.underlying87, rfl⟩
theorem Ty.s87 : (Try.prog.info? 87).map (·.size) = some 11 := by kernel_rfl
theorem Ty.p87 : plc Try.prog 87 = some [(0, 1), (1, 1), (2, 1), (3, 1), (4, 1), (5, 1), (6, 1), (7, 1), (8, 1), (9, 1), (10, 1)] := by kernel_rfl
theorem Ty.z87 : (Try.prog.info? 87).map (fun i => i.size == 0) = some false := by kernel_rfl
theorem Ty.i87 : Inf Try.prog 87 (.agg #[(.int .u64 0), (.int .u64 0), (.int .u32 0), (.int .u8 0), (.int .u8 0), (.int .u8 0), (.int .u8 0), .nilFunc, (.pointer none), (.int .i32 0), (.int .i32 0)]) 11 48 := by unfold Inf; kernel_rfl
theorem Ty.o88 : OneC Try.prog 88 := ⟨_, Try.underlying88, rfl⟩
theorem Ty.s88 : (Try.prog.info? 88).map (·.size) = some 1 := by kernel_rfl
theorem Ty.z88 : (Try.prog.info? 88).map (fun i => i.size == 0) = some false := by kernel_rfl
theorem Ty.i88 : Inf Try.prog 88 (.pointer none) 1 8 := by unfold Inf; kernel_rfl
end Go.Proofs.Ytnjijnlckbaggaa
