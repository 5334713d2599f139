/- Closed facts on the types of the program. Conditions: those that each row states. -/
import Derived.Test.YtjfjnmbgimfmaaaGreatBd
import Derived.Test.YtjfjnmbgimfmaaaGreatProg
namespace Go.Proofs.YtjfjnmbgimfmaaaGreat
open Go Go.Ro
theorem Ty.mixed : Tryz.prog.follows .mixedOrders = true := by kernel_rfl
theorem Ty.o2 : OneC Tryz.prog 2 := ⟨_, Tryz.underlying2, rfl⟩
theorem Ty.s2 : (Tryz.prog.info? 2).map (·.size) = some 1 := by kernel_rfl
theorem Ty.z2 : (Tryz.prog.info? 2).map (fun i => i.size == 0) = some false := by kernel_rfl
theorem Ty.i2 : Inf Tryz.prog 2 (.int .i64 0) 1 8 := by unfold Inf; kernel_rfl
theorem Ty.o3 : OneC Tryz.prog 3 := ⟨_, Tryz.underlying3, rfl⟩
theorem Ty.s3 : (Tryz.prog.info? 3).map (·.size) = some 1 := by kernel_rfl
theorem Ty.z3 : (Tryz.prog.info? 3).map (fun i => i.size == 0) = some false := by kernel_rfl
theorem Ty.i3 : Inf Tryz.prog 3 (.int .i64 0) 1 8 := by unfold Inf; kernel_rfl
theorem Ty.o4 : OneC Tryz.prog 4 := ⟨_, Tryz.underlying4, rfl⟩
theorem Ty.s4 : (Tryz.prog.info? 4).map (·.size) = some 1 := by kernel_rfl
theorem Ty.z4 : (Tryz.prog.info? 4).map (fun i => i.size == 0) = some false := by kernel_rfl
theorem Ty.i4 : Inf Tryz.prog 4 (.bool false) 1 1 := by unfold Inf; kernel_rfl
theorem Ty.o5 : OneC Tryz.prog 5 := ⟨_, Tryz.underlying5, rfl⟩
theorem Ty.s5 : (Tryz.prog.info? 5).map (·.size) = some 1 := by kernel_rfl
theorem Ty.z5 : (Tryz.prog.info? 5).map (fun i => i.size == 0) = some false := by kernel_rfl
theorem Ty.i5 : Inf Tryz.prog 5 (.int .u8 0) 1 1 := by unfold Inf; kernel_rfl
theorem Ty.o6 : OneC Tryz.prog 6 := ⟨_, Tryz.underlying6, rfl⟩
theorem Ty.s6 : (Tryz.prog.info? 6).map (·.size) = some 1 := by kernel_rfl
theorem Ty.z6 : (Tryz.prog.info? 6).map (fun i => i.size == 0) = some false := by kernel_rfl
theorem Ty.i6 : Inf Tryz.prog 6 (.int .u8 0) 1 1 := by unfold Inf; kernel_rfl
theorem Ty.a7 : AggC Tryz.prog 7 := ⟨_, Tryz.underlying7, rfl⟩
theorem Ty.s7 : (Tryz.prog.info? 7).map (·.size) = some 4 := by kernel_rfl
theorem Ty.p7 : plc Tryz.prog 7 = some [(0, 1), (1, 1), (2, 1), (3, 1)] := by kernel_rfl
theorem Ty.z7 : (Tryz.prog.info? 7).map (fun i => i.size == 0) = some false := by kernel_rfl
theorem Ty.i7 : Inf Tryz.prog 7 (.agg #[(.int .i64 0), (.int .i64 0), (.bool false), (.int .u8 0)]) 4 24 := by unfold Inf; kernel_rfl
theorem Ty.a8 : AggC Tryz.prog 8 := ⟨_, Tryz.underlying8, rfl⟩
theorem Ty.s8 : (Tryz.prog.info? 8).map (·.size) = some 4 := by kernel_rfl
theorem Ty.p8 : plc Tryz.prog 8 = some [(0, 1), (1, 1), (2, 1), (3, 1)] := by kernel_rfl
theorem Ty.z8 : (Tryz.prog.info? 8).map (fun i => i.size == 0) = some false := by kernel_rfl
theorem Ty.i8 : Inf Tryz.prog 8 (.agg #[(.int .i64 0), (.int .i64 0), (.bool false), (.int .u8 0)]) 4 24 := by unfold Inf; kernel_rfl
theorem Ty.o9 : OneC Tryz.prog 9 := ⟨_, Tryz.underlying9, rfl⟩
theorem Ty.s9 : (Tryz.prog.info? 9).map (·.size) = some 1 := by kernel_rfl
theorem Ty.z9 : (Tryz.prog.info? 9).map (fun i => i.size == 0) = some false := by kernel_rfl
theorem Ty.i9 : Inf Tryz.prog 9 (.string ByteArray.empty) 1 16 := by unfold Inf; kernel_rfl
theorem Ty.o10 : OneC Tryz.prog 10 := ⟨_, Tryz.underlying10, rfl⟩
theorem Ty.s10 : (Tryz.prog.info? 10).map (·.size) = some 1 := by kernel_rfl
theorem Ty.z10 : (Tryz.prog.info? 10).map (fun i => i.size == 0) = some false := by kernel_rfl
theorem Ty.i10 : Inf Tryz.prog 10 (.string ByteArray.empty) 1 16 := by unfold Inf; kernel_rfl
theorem Ty.o11 : OneC Tryz.prog 11 := ⟨_, Tryz.underlying11, rfl⟩
theorem Ty.s11 : (Tryz.prog.info? 11).map (·.size) = some 1 := by kernel_rfl
theorem Ty.z11 : (Tryz.prog.info? 11).map (fun i => i.size == 0) = some false := by kernel_rfl
theorem Ty.i11 : Inf Tryz.prog 11 (.string ByteArray.empty) 1 16 := by unfold Inf; kernel_rfl
theorem Ty.o12 : OneC Tryz.prog 12 := ⟨_, Tryz.underlying12, rfl⟩
theorem Ty.s12 : (Tryz.prog.info? 12).map (·.size) = some 1 := by kernel_rfl
theorem Ty.z12 : (Tryz.prog.info? 12).map (fun i => i.size == 0) = some false := by kernel_rfl
theorem Ty.i12 : Inf Tryz.prog 12 (.int .u64 0) 1 8 := by unfold Inf; kernel_rfl
theorem Ty.a13 : AggC Tryz.prog 13 := ⟨_, Tryz.underlying13, rfl⟩
theorem Ty.s13 : (Tryz.prog.info? 13).map (·.size) = some 2 := by kernel_rfl
theorem Ty.p13 : plc Tryz.prog 13 = some [(0, 1), (1, 1)] := by kernel_rfl
theorem Ty.z13 : (Tryz.prog.info? 13).map (fun i => i.size == 0) = some false := by kernel_rfl
theorem Ty.i13 : Inf Tryz.prog 13 (.agg #[(.string ByteArray.empty), (.int .u64 0)]) 2 24 := by unfold Inf; kernel_rfl
theorem Ty.a14 : AggC Tryz.prog 14 := ⟨_, Tryz.underlying14, rfl⟩
theorem Ty.s14 : (Tryz.prog.info? 14).map (·.size) = some 2 := by kernel_rfl
theorem Ty.p14 : plc Tryz.prog 14 = some [(0, 1), (1, 1)] := by kernel_rfl
theorem Ty.z14 : (Tryz.prog.info? 14).map (fun i => i.size == 0) = some false := by kernel_rfl
theorem Ty.i14 : Inf Tryz.prog 14 (.agg #[(.string ByteArray.empty), (.int .u64 0)]) 2 24 := by unfold Inf; kernel_rfl
theorem Ty.o15 : OneC Tryz.prog 15 := ⟨_, Tryz.underlying15, rfl⟩
theorem Ty.s15 : (Tryz.prog.info? 15).map (·.size) = some 1 := by kernel_rfl
theorem Ty.z15 : (Tryz.prog.info? 15).map (fun i => i.size == 0) = some false := by kernel_rfl
theorem Ty.i15 : Inf Tryz.prog 15 (.pointer none) 1 8 := by unfold Inf; kernel_rfl
theorem Ty.o16 : OneC Tryz.prog 16 := ⟨_, Tryz.underlying16, rfl⟩
theorem Ty.s16 : (Tryz.prog.info? 16).map (·.size) = some 1 := by kernel_rfl
theorem Ty.z16 : (Tryz.prog.info? 16).map (fun i => i.size == 0) = some false := by kernel_rfl
theorem Ty.i16 : Inf Tryz.prog 16 (.pointer none) 1 8 := by unfold Inf; kernel_rfl
theorem Ty.o17 : OneC Tryz.prog 17 := ⟨_, Tryz.underlying17, rfl⟩
theorem Ty.s17 : (Tryz.prog.info? 17).map (·.size) = some 1 := by kernel_rfl
theorem Ty.z17 : (Tryz.prog.info? 17).map (fun i => i.size == 0) = some false := by kernel_rfl
theorem Ty.i17 : Inf Tryz.prog 17 (.pointer none) 1 8 := by unfold Inf; kernel_rfl
theorem Ty.a18 : AggC Tryz.prog 18 := ⟨_, Tryz.underlying18, rfl⟩
theorem Ty.s18 : (Tryz.prog.info? 18).map (·.size) = some 1 := by kernel_rfl
theorem Ty.p18 : plc Tryz.prog 18 = some [(0, 1)] := by kernel_rfl
theorem Ty.z18 : (Tryz.prog.info? 18).map (fun i => i.size == 0) = some false := by kernel_rfl
theorem Ty.i18 : Inf Tryz.prog 18 (.agg #[(.pointer none)]) 1 8 := by unfold Inf; kernel_rfl
theorem Ty.a19 : AggC Tryz.prog 19 := ⟨_, Tryz.underlying19, rfl⟩
theorem Ty.s19 : (Tryz.prog.info? 19).map (·.size) = some 1 := by kernel_rfl
theorem Ty.p19 : plc Tryz.prog 19 = some [(0, 1)] := by kernel_rfl
theorem Ty.z19 : (Tryz.prog.info? 19).map (fun i => i.size == 0) = some false := by kernel_rfl
theorem Ty.i19 : Inf Tryz.prog 19 (.agg #[(.pointer none)]) 1 8 := by unfold Inf; kernel_rfl
theorem Ty.o20 : OneC Tryz.prog 20 := ⟨_, Tryz.underlying20, rfl⟩
theorem Ty.s20 : (Tryz.prog.info? 20).map (·.size) = some 1 := by kernel_rfl
theorem Ty.z20 : (Tryz.prog.info? 20).map (fun i => i.size == 0) = some false := by kernel_rfl
theorem Ty.i20 : Inf Tryz.prog 20 .nilIface 1 16 := by unfold Inf; kernel_rfl
theorem Ty.o21 : OneC Tryz.prog 21 := ⟨_, Tryz.underlying21, rfl⟩
theorem Ty.s21 : (Tryz.prog.info? 21).map (·.size) = some 1 := by kernel_rfl
theorem Ty.z21 : (Tryz.prog.info? 21).map (fun i => i.size == 0) = some false := by kernel_rfl
theorem Ty.i21 : Inf Tryz.prog 21 (.int .i32 0) 1 4 := by unfold Inf; kernel_rfl
theorem Ty.o22 : OneC Tryz.prog 22 := ⟨_, Tryz.underlying22, rfl⟩
theorem Ty.s22 : (Tryz.prog.info? 22).map (·.size) = some 1 := by kernel_rfl
theorem Ty.z22 : (Tryz.prog.info? 22).map (fun i => i.size == 0) = some false := by kernel_rfl
theorem Ty.i22 : Inf Tryz.prog 22 (.slice none 0 0) 1 24 := by unfold Inf; kernel_rfl
theorem Ty.o23 : OneC Tryz.prog 23 := ⟨_, Tryz.underlying23, rfl⟩
theorem Ty.s23 : (Tryz.prog.info? 23).map (·.size) = some 1 := by kernel_rfl
theorem Ty.z23 : (Tryz.prog.info? 23).map (fun i => i.size == 0) = some false := by kernel_rfl
theorem Ty.i23 : Inf Tryz.prog 23 (.slice none 0 0) 1 24 := by unfold Inf; kernel_rfl
theorem Ty.o24 : OneC Tryz.prog 24 := ⟨_, Tryz.underlying24, rfl⟩
theorem Ty.s24 : (Tryz.prog.info? 24).map (·.size) = some 1 := by kernel_rfl
theorem Ty.z24 : (Tryz.prog.info? 24).map (fun i => i.size == 0) = some false := by kernel_rfl
theorem Ty.i24 : Inf Tryz.prog 24 (.slice none 0 0) 1 24 := by unfold Inf; kernel_rfl
theorem Ty.o25 : OneC Tryz.prog 25 := ⟨_, Tryz.underlying25, rfl⟩
theorem Ty.s25 : (Tryz.prog.info? 25).map (·.size) = some 1 := by kernel_rfl
theorem Ty.z25 : (Tryz.prog.info? 25).map (fun i => i.size == 0) = some false := by kernel_rfl
theorem Ty.i25 : Inf Tryz.prog 25 (.slice none 0 0) 1 24 := by unfold Inf; kernel_rfl
theorem Ty.o26 : OneC Tryz.prog 26 := ⟨_, Tryz.underlying26, rfl⟩
theorem Ty.s26 : (Tryz.prog.info? 26).map (·.size) = some 1 := by kernel_rfl
theorem Ty.z26 : (Tryz.prog.info? 26).map (fun i => i.size == 0) = some false := by kernel_rfl
theorem Ty.i26 : Inf Tryz.prog 26 (.slice none 0 0) 1 24 := by unfold Inf; kernel_rfl
theorem Ty.a27 : AggC Tryz.prog 27 := ⟨_, Tryz.underlying27, rfl⟩
theorem Ty.s27 : (Tryz.prog.info? 27).map (·.size) = some 2 := by kernel_rfl
theorem Ty.p27 : plc Tryz.prog 27 = some [(0, 1), (1, 1)] := by kernel_rfl
theorem Ty.z27 : (Tryz.prog.info? 27).map (fun i => i.size == 0) = some false := by kernel_rfl
theorem Ty.i27 : Inf Tryz.prog 27 (.agg #[(.int .i64 0), (.slice none 0 0)]) 2 32 := by unfold Inf; kernel_rfl
theorem Ty.a28 : AggC Tryz.prog 28 := ⟨_, Tryz.underlying28, rfl⟩
theorem Ty.s28 : (Tryz.prog.info? 28).map (·.size) = some 2 := by kernel_rfl
theorem Ty.p28 : plc Tryz.prog 28 = some [(0, 1), (1, 1)] := by kernel_rfl
theorem Ty.z28 : (Tryz.prog.info? 28).map (fun i => i.size == 0) = some false := by kernel_rfl
theorem Ty.i28 : Inf Tryz.prog 28 (.agg #[(.int .i64 0), (.slice none 0 0)]) 2 32 := by unfold Inf; kernel_rfl
theorem Ty.a29 : AggC Tryz.prog 29 := ⟨_, Tryz.underlying29, rfl⟩
theorem Ty.s29 : (Tryz.prog.info? 29).map (·.size) = some 7 := by kernel_rfl
theorem Ty.p29 : plc Tryz.prog 29 = some [(0, 1), (1, 1), (2, 1), (3, 1), (4, 2), (6, 1)] := by kernel_rfl
theorem Ty.z29 : (Tryz.prog.info? 29).map (fun i => i.size == 0) = some false := by kernel_rfl
theorem Ty.i29 : Inf Tryz.prog 29 (.agg #[(.int .i64 0), (.slice none 0 0), (.slice none 0 0), (.slice none 0 0), (.int .i64 0), (.slice none 0 0), (.slice none 0 0)]) 7 136 := by unfold Inf; kernel_rfl
theorem Ty.a30 : AggC Tryz.prog 30 := ⟨_, Tryz.underlying30, rfl⟩
theorem Ty.s30 : (Tryz.prog.info? 30).map (·.size) = some 7 := by kernel_rfl
theorem Ty.p30 : plc Tryz.prog 30 = some [(0, 1), (1, 1), (2, 1), (3, 1), (4, 2), (6, 1)] := by kernel_rfl
theorem Ty.z30 : (Tryz.prog.info? 30).map (fun i => i.size == 0) = some false := by kernel_rfl
theorem Ty.i30 : Inf Tryz.prog 30 (.agg #[(.int .i64 0), (.slice none 0 0), (.slice none 0 0), (.slice none 0 0), (.int .i64 0), (.slice none 0 0), (.slice none 0 0)]) 7 136 := by unfold Inf; kernel_rfl
theorem Ty.a34 : AggC Tryz.prog 34 := ⟨_, Tryz.underlying34, rfl⟩
theorem Ty.s34 : (Tryz.prog.info? 34).map (·.size) = some 3 := by kernel_rfl
theorem Ty.p34 : plc Tryz.prog 34 = some [(0, 1), (1, 1), (2, 1)] := by kernel_rfl
theorem Ty.z34 : (Tryz.prog.info? 34).map (fun i => i.size == 0) = some false := by kernel_rfl
theorem Ty.i34 : Inf Tryz.prog 34 (.agg #[(.int .i64 0), (.int .i64 0), (.int .i64 0)]) 3 24 := by unfold Inf; kernel_rfl
theorem Ty.a35 : AggC Tryz.prog 35 := ⟨_, Tryz.underlying35, rfl⟩
theorem Ty.s35 : (Tryz.prog.info? 35).map (·.size) = some 3 := by kernel_rfl
theorem Ty.p35 : plc Tryz.prog 35 = some [(0, 1), (1, 1), (2, 1)] := by kernel_rfl
theorem Ty.z35 : (Tryz.prog.info? 35).map (fun i => i.size == 0) = some false := by kernel_rfl
theorem Ty.i35 : Inf Tryz.prog 35 (.agg #[(.int .i64 0), (.int .i64 0), (.int .i64 0)]) 3 24 := by unfold Inf; kernel_rfl
theorem Ty.a38 : AggC Tryz.prog 38 := ⟨_, Tryz.underlying38, rfl⟩
theorem Ty.s38 : (Tryz.prog.info? 38).map (·.size) = some 3 := by kernel_rfl
theorem Ty.p38 : plc Tryz.prog 38 = some [(0, 1), (1, 1), (2, 1)] := by kernel_rfl
theorem Ty.z38 : (Tryz.prog.info? 38).map (fun i => i.size == 0) = some false := by kernel_rfl
theorem Ty.i38 : Inf Tryz.prog 38 (.agg #[(.int .i64 0), (.int .i64 0), (.slice none 0 0)]) 3 40 := by unfold Inf; kernel_rfl
theorem Ty.a39 : AggC Tryz.prog 39 := ⟨_, Tryz.underlying39, rfl⟩
theorem Ty.s39 : (Tryz.prog.info? 39).map (·.size) = some 3 := by kernel_rfl
theorem Ty.p39 : plc Tryz.prog 39 = some [(0, 1), (1, 1), (2, 1)] := by kernel_rfl
theorem Ty.z39 : (Tryz.prog.info? 39).map (fun i => i.size == 0) = some false := by kernel_rfl
theorem Ty.i39 : Inf Tryz.prog 39 (.agg #[(.int .i64 0), (.int .i64 0), (.slice none 0 0)]) 3 40 := by unfold Inf; kernel_rfl
theorem Ty.o42 : OneC Tryz.prog 42 := ⟨_, Tryz.underlying42, rfl⟩
theorem Ty.s42 : (Tryz.prog.info? 42).map (·.size) = some 1 := by kernel_rfl
theorem Ty.z42 : (Tryz.prog.info? 42).map (fun i => i.size == 0) = some false := by kernel_rfl
theorem Ty.i42 : Inf Tryz.prog 42 (.pointer none) 1 8 := by unfold Inf; kernel_rfl
theorem Ty.o50 : OneC Tryz.prog 50 := ⟨_, Tryz.underlying50, rfl⟩
theorem Ty.s50 : (Tryz.prog.info? 50).map (·.size) = some 1 := by kernel_rfl
theorem Ty.z50 : (Tryz.prog.info? 50).map (fun i => i.size == 0) = some false := by kernel_rfl
theorem Ty.i50 : Inf Tryz.prog 50 (.int .i64 0) 1 8 := by unfold Inf; kernel_rfl
theorem Ty.a53 : AggC Tryz.prog 53 := ⟨_, Tryz.underlying53, rfl⟩
theorem Ty.s53 : (Tryz.prog.info? 53).map (·.size) = some 2 := by kernel_rfl
theorem Ty.p53 : plc Tryz.prog 53 = some [(0, 1), (1, 1)] := by kernel_rfl
theorem Ty.z53 : (Tryz.prog.info? 53).map (fun i => i.size == 0) = some false := by kernel_rfl
theorem Ty.i53 : Inf Tryz.prog 53 (.agg #[(.slice none 0 0), (.int .i64 0)]) 2 32 := by unfold Inf; kernel_rfl
theorem Ty.a54 : AggC Tryz.prog 54 := ⟨_, Tryz.underlying54, rfl⟩
theorem Ty.s54 : (Tryz.prog.info? 54).map (·.size) = some 2 := by kernel_rfl
theorem Ty.p54 : plc Tryz.prog 54 = some [(0, 1), (1, 1)] := by kernel_rfl
theorem Ty.z54 : (Tryz.prog.info? 54).map (fun i => i.size == 0) = some false := by kernel_rfl
theorem Ty.i54 : Inf Tryz.prog 54 (.agg #[(.slice none 0 0), (.int .i64 0)]) 2 32 := by unfold Inf; kernel_rfl
theorem Ty.a59 : AggC Tryz.prog 59 := ⟨_, Tryz.underlying59, rfl⟩
theorem Ty.s59 : (Tryz.prog.info? 59).map (·.size) = some 4 := by kernel_rfl
theorem Ty.p59 : plc Tryz.prog 59 = some [(0, 1), (1, 1), (2, 1), (3, 1)] := by kernel_rfl
theorem Ty.z59 : (Tryz.prog.info? 59).map (fun i => i.size == 0) = some false := by kernel_rfl
theorem Ty.i59 : Inf Tryz.prog 59 (.agg #[(.int .i64 0), (.int .i64 0), (.int .i64 0), (.int .i64 0)]) 4 32 := by unfold Inf; kernel_rfl
theorem Ty.a60 : AggC Tryz.prog 60 := ⟨_, Tryz.underlying60, rfl⟩
theorem Ty.s60 : (Tryz.prog.info? 60).map (·.size) = some 4 := by kernel_rfl
theorem Ty.p60 : plc Tryz.prog 60 = some [(0, 1), (1, 1), (2, 1), (3, 1)] := by kernel_rfl
theorem Ty.z60 : (Tryz.prog.info? 60).map (fun i => i.size == 0) = some false := by kernel_rfl
theorem Ty.i60 : Inf Tryz.prog 60 (.agg #[(.int .i64 0), (.int .i64 0), (.int .i64 0), (.int .i64 0)]) 4 32 := by unfold Inf; kernel_rfl
theorem Ty.a65 : AggC Tryz.prog 65 := ⟨_, Tryz.underlying65, rfl⟩
theorem Ty.s65 : (Tryz.prog.info? 65).map (·.size) = some 2 := by kernel_rfl
theorem Ty.p65 : plc Tryz.prog 65 = some [(0, 1), (1, 1)] := by kernel_rfl
theorem Ty.z65 : (Tryz.prog.info? 65).map (fun i => i.size == 0) = some false := by kernel_rfl
theorem Ty.i65 : Inf Tryz.prog 65 (.agg #[(.int .i64 0), (.int .i64 0)]) 2 16 := by unfold Inf; kernel_rfl
theorem Ty.a66 : AggC Tryz.prog 66 := ⟨_, Tryz.underlying66, rfl⟩
theorem Ty.s66 : (Tryz.prog.info? 66).map (·.size) = some 2 := by kernel_rfl
theorem Ty.p66 : plc Tryz.prog 66 = some [(0, 1), (1, 1)] := by kernel_rfl
theorem Ty.z66 : (Tryz.prog.info? 66).map (fun i => i.size == 0) = some false := by kernel_rfl
theorem Ty.i66 : Inf Tryz.prog 66 (.agg #[(.int .i64 0), (.int .i64 0)]) 2 16 := by unfold Inf; kernel_rfl
theorem Ty.o77 : OneC Tryz.prog 77 := ⟨_, Tryz.underlying77, rfl⟩
theorem Ty.s77 : (Tryz.prog.info? 77).map (·.size) = some 1 := by kernel_rfl
theorem Ty.z77 : (Tryz.prog.info? 77).map (fun i => i.size == 0) = some false := by kernel_rfl
theorem Ty.i77 : Inf Tryz.prog 77 (.pointer none) 1 8 := by unfold Inf; kernel_rfl
theorem Ty.o88 : OneC Tryz.prog 88 := ⟨_, Tryz.underlying88, rfl⟩
theorem Ty.s88 : (Tryz.prog.info? 88).map (·.size) = some 1 := by kernel_rfl
theorem Ty.z88 : (Tryz.prog.info? 88).map (fun i => i.size == 0) = some false := by kernel_rfl
theorem Ty.i88 : Inf Tryz.prog 88 (.pointer none) 1 8 := by unfold Inf; kernel_rfl
theorem Ty.a117 : AggC Tryz.prog 117 := ⟨_, Tryz.underlying117, rfl⟩
theorem Ty.s117 : (Tryz.prog.info? 117).map (·.size) = some 4 := by kernel_rfl
theorem Ty.p117 : plc Tryz.prog 117 = some [(0, 1), (1, 1), (2, 1), (3, 1)] := by kernel_rfl
theorem Ty.z117 : (Tryz.prog.info? 117).map (fun i => i.size == 0) = some false := by kernel_rfl
theorem Ty.i117 : Inf Tryz.prog 117 (.agg #[(.pointer none), (.pointer none), (.pointer none), (.string ByteArray.empty)]) 4 40 := by unfold Inf; kernel_rfl
theorem Ty.a118 : AggC Tryz.prog 118 := ⟨_, Tryz.underlying118, rfl⟩
theorem Ty.s118 : (Tryz.prog.info? 118).map (·.size) = some 4 := by kernel_rfl
theorem Ty.p118 : plc Tryz.prog 118 = some [(0, 1), (1, 1), (2, 1), (3, 1)] := by kernel_rfl
theorem Ty.z118 : (Tryz.prog.info? 118).map (fun i => i.size == 0) = some false := by kernel_rfl
theorem Ty.i118 : Inf Tryz.prog 118 (.agg #[(.pointer none), (.pointer none), (.pointer none), (.string ByteArray.empty)]) 4 40 := by unfold Inf; kernel_rfl
theorem Ty.a119 : AggC Tryz.prog 119 := ⟨_, Tryz.underlying119, rfl⟩
theorem Ty.s119 : (Tryz.prog.info? 119).map (·.size) = some 0 := by kernel_rfl
theorem Ty.z119 : (Tryz.prog.info? 119).map (fun i => i.size == 0) = some true := by kernel_rfl
theorem Ty.i119 : Inf Tryz.prog 119 (.agg #[]) 0 0 := by unfold Inf; kernel_rfl
theorem Ty.a120 : AggC Tryz.prog 120 := ⟨_, Tryz.underlying120, rfl⟩
theorem Ty.s120 : (Tryz.prog.info? 120).map (·.size) = some 0 := by kernel_rfl
theorem Ty.p120 : plc Tryz.prog 120 = some [(0, 0)] := by kernel_rfl
theorem Ty.z120 : (Tryz.prog.info? 120).map (fun i => i.size == 0) = some true := by kernel_rfl
theorem Ty.i120 : Inf Tryz.prog 120 (.agg #[]) 0 0 := by unfold Inf; kernel_rfl
theorem Ty.a121 : AggC Tryz.prog 121 := ⟨_, Tryz.underlying121, rfl⟩
theorem Ty.s121 : (Tryz.prog.info? 121).map (·.size) = some 0 := by kernel_rfl
theorem Ty.p121 : plc Tryz.prog 121 = some [(0, 0)] := by kernel_rfl
theorem Ty.z121 : (Tryz.prog.info? 121).map (fun i => i.size == 0) = some true := by kernel_rfl
theorem Ty.i121 : Inf Tryz.prog 121 (.agg #[]) 0 0 := by unfold Inf; kernel_rfl
theorem Ty.o123 : OneC Tryz.prog 123 := ⟨_, Tryz.underlying123, rfl⟩
theorem Ty.s123 : (Tryz.prog.info? 123).map (·.size) = some 1 := by kernel_rfl
theorem Ty.z123 : (Tryz.prog.info? 123).map (fun i => i.size == 0) = some false := by kernel_rfl
theorem Ty.i123 : Inf Tryz.prog 123 (.int .u32 0) 1 4 := by unfold Inf; kernel_rfl
theorem Ty.o124 : OneC Tryz.prog 124 := ⟨_, Tryz.underlying124, rfl⟩
theorem Ty.s124 : (Tryz.prog.info? 124).map (·.size) = some 1 := by kernel_rfl
theorem Ty.z124 : (Tryz.prog.info? 124).map (fun i => i.size == 0) = some false := by kernel_rfl
theorem Ty.i124 : Inf Tryz.prog 124 (.int .u8 0) 1 1 := by unfold Inf; kernel_rfl
theorem Ty.o125 : OneC Tryz.prog 125 := ⟨_, Tryz.underlying125, rfl⟩
theorem Ty.s125 : (Tryz.prog.info? 125).map (·.size) = some 1 := by kernel_rfl
theorem Ty.z125 : (Tryz.prog.info? 125).map (fun i => i.size == 0) = some false := by kernel_rfl
theorem Ty.i125 : Inf Tryz.prog 125 (.int .u8 0) 1 1 := by unfold Inf; kernel_rfl
theorem Ty.o127 : OneC Tryz.prog 127 := ⟨_, Tryz.underlying127, rfl⟩
theorem Ty.s127 : (Tryz.prog.info? 127).map (·.size) = some 1 := by kernel_rfl
theorem Ty.z127 : (Tryz.prog.info? 127).map (fun i => i.size == 0) = some false := by kernel_rfl
theorem Ty.i127 : Inf Tryz.prog 127 (.pointer none) 1 8 := by unfold Inf; kernel_rfl
theorem Ty.o128 : OneC Tryz.prog 128 := ⟨_, Tryz.underlying128, rfl⟩
theorem Ty.s128 : (Tryz.prog.info? 128).map (·.size) = some 1 := by kernel_rfl
theorem Ty.z128 : (Tryz.prog.info? 128).map (fun i => i.size == 0) = some false := by kernel_rfl
theorem Ty.i128 : Inf Tryz.prog 128 (.int .i32 0) 1 4 := by unfold Inf; kernel_rfl
theorem Ty.o129 : OneC Tryz.prog 129 := ⟨_, Tryz.underlying129, rfl⟩
theorem Ty.s129 : (Tryz.prog.info? 129).map (·.size) = some 1 := by kernel_rfl
theorem Ty.z129 : (Tryz.prog.info? 129).map (fun i => i.size == 0) = some false := by kernel_rfl
theorem Ty.i129 : Inf Tryz.prog 129 (.int .i32 0) 1 4 := by unfold Inf; kernel_rfl
theorem Ty.a130 : AggC Tryz.prog 130 := ⟨_, Tryz.underlying130, rfl⟩
theorem Ty.s130 : (Tryz.prog.info? 130).map (·.size) = some 11 := by kernel_rfl
theorem Ty.p130 : plc Tryz.prog 130 = some [(0, 1), (1, 1), (2, 1), (3, 1), (4, 1), (5, 1), (6, 1), (7, 1), (8, 1), (9, 1), (10, 1)] := by kernel_rfl
theorem Ty.z130 : (Tryz.prog.info? 130).map (fun i => i.size == 0) = some false := by kernel_rfl
theorem Ty.i130 : Inf Tryz.prog 130 (.agg #[(.int .u64 0), (.int .u64 0), (.int .u32 0), (.int .u8 0), (.int .u8 0), (.int .u8 0), (.int .u8 0), .nilFunc, (.pointer none), (.int .i32 0), (.int .i32 0)]) 11 48 := by unfold Inf; kernel_rfl
theorem Ty.a131 : AggC Tryz.prog 131 := ⟨_, Tryz.underlying131, rfl⟩
theorem Ty.s131 : (Tryz.prog.info? 131).map (·.size) = some 11 := by kernel_rfl
theorem Ty.p131 : plc Tryz.prog 131 = some [(0, 1), (1, 1), (2, 1), (3, 1), (4, 1), (5, 1), (6, 1), (7, 1), (8, 1), (9, 1), (10, 1)] := by kernel_rfl
theorem Ty.z131 : (Tryz.prog.info? 131).map (fun i => i.size == 0) = some false := by kernel_rfl
theorem Ty.i131 : Inf Tryz.prog 131 (.agg #[(.int .u64 0), (.int .u64 0), (.int .u32 0), (.int .u8 0), (.int .u8 0), (.int .u8 0), (.int .u8 0), .nilFunc, (.pointer none), (.int .i32 0), (.int .i32 0)]) 11 48 := by unfold Inf; kernel_rfl
theorem Ty.o133 : OneC Tryz.prog 133 := ⟨_, Tryz.underlying133, rfl⟩
theorem Ty.s133 : (Tryz.prog.info? 133).map (·.size) = some 1 := by kernel_rfl
theorem Ty.z133 : (Tryz.prog.info? 133).map (fun i => i.size == 0) = some false := by kernel_rfl
theorem Ty.i133 : Inf Tryz.prog 133 (.pointer none) 1 8 := by unfold Inf; kernel_rfl
end Go.Proofs.YtjfjnmbgimfmaaaGreat
