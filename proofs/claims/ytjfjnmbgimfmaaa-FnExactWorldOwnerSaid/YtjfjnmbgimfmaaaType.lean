/- Closed facts on the types of the program. Conditions: none. -/
import Derived.Test.YtjfjnmbgimfmaaaBd
import Derived.Test.YtjfjnmbgimfmaaaProg
namespace Go.Proofs.Ytjfjnmbgimfmaaa
open Go Go.Ro
theorem Ty.mixed : Try.prog.follows .mixedOrders = true := by kernel_rfl
theorem Ty.o2 : OneC Try.prog 2 := ⟨_, Try.underlying2, rfl⟩
theorem Ty.s2 : (Try.prog.info? 2).map (·.size) = some 1 := by kernel_rfl
theorem Ty.z2 : (Try.prog.info? 2).map (fun i => i.size == 0) = some false := by kernel_rfl
theorem Ty.i2 : Inf Try.prog 2 (.int .i64 0) 1 8 := by unfold Inf; kernel_rfl
theorem Ty.o3 : OneC Try.prog 3 := ⟨_, Try.underlying3, rfl⟩
theorem Ty.s3 : (Try.prog.info? 3).map (·.size) = some 1 := by kernel_rfl
theorem Ty.z3 : (Try.prog.info? 3).map (fun i => i.size == 0) = some false := by kernel_rfl
theorem Ty.i3 : Inf Try.prog 3 (.int .i64 0) 1 8 := by unfold Inf; kernel_rfl
theorem Ty.o4 : OneC Try.prog 4 := ⟨_, Try.underlying4, rfl⟩
theorem Ty.s4 : (Try.prog.info? 4).map (·.size) = some 1 := by kernel_rfl
theorem Ty.z4 : (Try.prog.info? 4).map (fun i => i.size == 0) = some false := by kernel_rfl
theorem Ty.i4 : Inf Try.prog 4 (.bool false) 1 1 := by unfold Inf; kernel_rfl
theorem Ty.o5 : OneC Try.prog 5 := ⟨_, Try.underlying5, rfl⟩
theorem Ty.s5 : (Try.prog.info? 5).map (·.size) = some 1 := by kernel_rfl
theorem Ty.z5 : (Try.prog.info? 5).map (fun i => i.size == 0) = some false := by kernel_rfl
theorem Ty.i5 : Inf Try.prog 5 (.int .u8 0) 1 1 := by unfold Inf; kernel_rfl
theorem Ty.o6 : OneC Try.prog 6 := ⟨_, Try.underlying6, rfl⟩
theorem Ty.s6 : (Try.prog.info? 6).map (·.size) = some 1 := by kernel_rfl
theorem Ty.z6 : (Try.prog.info? 6).map (fun i => i.size == 0) = some false := by kernel_rfl
theorem Ty.i6 : Inf Try.prog 6 (.int .u8 0) 1 1 := by unfold Inf; kernel_rfl
theorem Ty.a7 : AggC Try.prog 7 := ⟨_, Try.underlying7, rfl⟩
theorem Ty.s7 : (Try.prog.info? 7).map (·.size) = some 4 := by kernel_rfl
theorem Ty.p7 : plc Try.prog 7 = some [(0, 1), (1, 1), (2, 1), (3, 1)] := by kernel_rfl
theorem Ty.z7 : (Try.prog.info? 7).map (fun i => i.size == 0) = some false := by kernel_rfl
theorem Ty.i7 : Inf Try.prog 7 (.agg #[(.int .i64 0), (.int .i64 0), (.bool false), (.int .u8 0)]) 4 24 := by unfold Inf; kernel_rfl
theorem Ty.a8 : AggC Try.prog 8 := ⟨_, Try.underlying8, rfl⟩
theorem Ty.s8 : (Try.prog.info? 8).map (·.size) = some 4 := by kernel_rfl
theorem Ty.p8 : plc Try.prog 8 = some [(0, 1), (1, 1), (2, 1), (3, 1)] := by kernel_rfl
theorem Ty.z8 : (Try.prog.info? 8).map (fun i => i.size == 0) = some false := by kernel_rfl
theorem Ty.i8 : Inf Try.prog 8 (.agg #[(.int .i64 0), (.int .i64 0), (.bool false), (.int .u8 0)]) 4 24 := by unfold Inf; kernel_rfl
theorem Ty.o9 : OneC Try.prog 9 := ⟨_, Try.underlying9, rfl⟩
theorem Ty.s9 : (Try.prog.info? 9).map (·.size) = some 1 := by kernel_rfl
theorem Ty.z9 : (Try.prog.info? 9).map (fun i => i.size == 0) = some false := by kernel_rfl
theorem Ty.i9 : Inf Try.prog 9 (.string ByteArray.empty) 1 16 := by unfold Inf; kernel_rfl
theorem Ty.o10 : OneC Try.prog 10 := ⟨_, Try.underlying10, rfl⟩
theorem Ty.s10 : (Try.prog.info? 10).map (·.size) = some 1 := by kernel_rfl
theorem Ty.z10 : (Try.prog.info? 10).map (fun i => i.size == 0) = some false := by kernel_rfl
theorem Ty.i10 : Inf Try.prog 10 (.string ByteArray.empty) 1 16 := by unfold Inf; kernel_rfl
theorem Ty.o11 : OneC Try.prog 11 := ⟨_, Try.underlying11, rfl⟩
theorem Ty.s11 : (Try.prog.info? 11).map (·.size) = some 1 := by kernel_rfl
theorem Ty.z11 : (Try.prog.info? 11).map (fun i => i.size == 0) = some false := by kernel_rfl
theorem Ty.i11 : Inf Try.prog 11 (.string ByteArray.empty) 1 16 := by unfold Inf; kernel_rfl
theorem Ty.o12 : OneC Try.prog 12 := ⟨_, Try.underlying12, rfl⟩
theorem Ty.s12 : (Try.prog.info? 12).map (·.size) = some 1 := by kernel_rfl
theorem Ty.z12 : (Try.prog.info? 12).map (fun i => i.size == 0) = some false := by kernel_rfl
theorem Ty.i12 : Inf Try.prog 12 (.int .u64 0) 1 8 := by unfold Inf; kernel_rfl
theorem Ty.a13 : AggC Try.prog 13 := ⟨_, Try.underlying13, rfl⟩
theorem Ty.s13 : (Try.prog.info? 13).map (·.size) = some 2 := by kernel_rfl
theorem Ty.p13 : plc Try.prog 13 = some [(0, 1), (1, 1)] := by kernel_rfl
theorem Ty.z13 : (Try.prog.info? 13).map (fun i => i.size == 0) = some false := by kernel_rfl
theorem Ty.i13 : Inf Try.prog 13 (.agg #[(.string ByteArray.empty), (.int .u64 0)]) 2 24 := by unfold Inf; kernel_rfl
theorem Ty.a14 : AggC Try.prog 14 := ⟨_, Try.underlying14, rfl⟩
theorem Ty.s14 : (Try.prog.info? 14).map (·.size) = some 2 := by kernel_rfl
theorem Ty.p14 : plc Try.prog 14 = some [(0, 1), (1, 1)] := by kernel_rfl
theorem Ty.z14 : (Try.prog.info? 14).map (fun i => i.size == 0) = some false := by kernel_rfl
theorem Ty.i14 : Inf Try.prog 14 (.agg #[(.string ByteArray.empty), (.int .u64 0)]) 2 24 := by unfold Inf; kernel_rfl
theorem Ty.o15 : OneC Try.prog 15 := ⟨_, Try.underlying15, rfl⟩
theorem Ty.s15 : (Try.prog.info? 15).map (·.size) = some 1 := by kernel_rfl
theorem Ty.z15 : (Try.prog.info? 15).map (fun i => i.size == 0) = some false := by kernel_rfl
theorem Ty.i15 : Inf Try.prog 15 (.pointer none) 1 8 := by unfold Inf; kernel_rfl
theorem Ty.o16 : OneC Try.prog 16 := ⟨_, Try.underlying16, rfl⟩
theorem Ty.s16 : (Try.prog.info? 16).map (·.size) = some 1 := by kernel_rfl
theorem Ty.z16 : (Try.prog.info? 16).map (fun i => i.size == 0) = some false := by kernel_rfl
theorem Ty.i16 : Inf Try.prog 16 (.pointer none) 1 8 := by unfold Inf; kernel_rfl
theorem Ty.o17 : OneC Try.prog 17 := ⟨_, Try.underlying17, rfl⟩
theorem Ty.s17 : (Try.prog.info? 17).map (·.size) = some 1 := by kernel_rfl
theorem Ty.z17 : (Try.prog.info? 17).map (fun i => i.size == 0) = some false := by kernel_rfl
theorem Ty.i17 : Inf Try.prog 17 (.pointer none) 1 8 := by unfold Inf; kernel_rfl
theorem Ty.a18 : AggC Try.prog 18 := ⟨_, Try.underlying18, rfl⟩
theorem Ty.s18 : (Try.prog.info? 18).map (·.size) = some 1 := by kernel_rfl
theorem Ty.p18 : plc Try.prog 18 = some [(0, 1)] := by kernel_rfl
theorem Ty.z18 : (Try.prog.info? 18).map (fun i => i.size == 0) = some false := by kernel_rfl
theorem Ty.i18 : Inf Try.prog 18 (.agg #[(.pointer none)]) 1 8 := by unfold Inf; kernel_rfl
theorem Ty.a19 : AggC Try.prog 19 := ⟨_, Try.underlying19, rfl⟩
theorem Ty.s19 : (Try.prog.info? 19).map (·.size) = some 1 := by kernel_rfl
theorem Ty.p19 : plc Try.prog 19 = some [(0, 1)] := by kernel_rfl
theorem Ty.z19 : (Try.prog.info? 19).map (fun i => i.size == 0) = some false := by kernel_rfl
theorem Ty.i19 : Inf Try.prog 19 (.agg #[(.pointer none)]) 1 8 := by unfold Inf; kernel_rfl
theorem Ty.o20 : OneC Try.prog 20 := ⟨_, Try.underlying20, rfl⟩
theorem Ty.s20 : (Try.prog.info? 20).map (·.size) = some 1 := by kernel_rfl
theorem Ty.z20 : (Try.prog.info? 20).map (fun i => i.size == 0) = some false := by kernel_rfl
theorem Ty.i20 : Inf Try.prog 20 .nilIface 1 16 := by unfold Inf; kernel_rfl
theorem Ty.o21 : OneC Try.prog 21 := ⟨_, Try.underlying21, rfl⟩
theorem Ty.s21 : (Try.prog.info? 21).map (·.size) = some 1 := by kernel_rfl
theorem Ty.z21 : (Try.prog.info? 21).map (fun i => i.size == 0) = some false := by kernel_rfl
theorem Ty.i21 : Inf Try.prog 21 (.int .i32 0) 1 4 := by unfold Inf; kernel_rfl
theorem Ty.o22 : OneC Try.prog 22 := ⟨_, Try.underlying22, rfl⟩
theorem Ty.s22 : (Try.prog.info? 22).map (·.size) = some 1 := by kernel_rfl
theorem Ty.z22 : (Try.prog.info? 22).map (fun i => i.size == 0) = some false := by kernel_rfl
theorem Ty.i22 : Inf Try.prog 22 (.slice none 0 0) 1 24 := by unfold Inf; kernel_rfl
theorem Ty.o23 : OneC Try.prog 23 := ⟨_, Try.underlying23, rfl⟩
theorem Ty.s23 : (Try.prog.info? 23).map (·.size) = some 1 := by kernel_rfl
theorem Ty.z23 : (Try.prog.info? 23).map (fun i => i.size == 0) = some false := by kernel_rfl
theorem Ty.i23 : Inf Try.prog 23 (.slice none 0 0) 1 24 := by unfold Inf; kernel_rfl
theorem Ty.o24 : OneC Try.prog 24 := ⟨_, Try.underlying24, rfl⟩
theorem Ty.s24 : (Try.prog.info? 24).map (·.size) = some 1 := by kernel_rfl
theorem Ty.z24 : (Try.prog.info? 24).map (fun i => i.size == 0) = some false := by kernel_rfl
theorem Ty.i24 : Inf Try.prog 24 (.slice none 0 0) 1 24 := by unfold Inf; kernel_rfl
theorem Ty.o25 : OneC Try.prog 25 := ⟨_, Try.underlying25, rfl⟩
theorem Ty.s25 : (Try.prog.info? 25).map (·.size) = some 1 := by kernel_rfl
theorem Ty.z25 : (Try.prog.info? 25).map (fun i => i.size == 0) = some false := by kernel_rfl
theorem Ty.i25 : Inf Try.prog 25 (.slice none 0 0) 1 24 := by unfold Inf; kernel_rfl
theorem Ty.a26 : AggC Try.prog 26 := ⟨_, Try.underlying26, rfl⟩
theorem Ty.s26 : (Try.prog.info? 26).map (·.size) = some 2 := by kernel_rfl
theorem Ty.p26 : plc Try.prog 26 = some [(0, 1), (1, 1)] := by kernel_rfl
theorem Ty.z26 : (Try.prog.info? 26).map (fun i => i.size == 0) = some false := by kernel_rfl
theorem Ty.i26 : Inf Try.prog 26 (.agg #[(.int .i64 0), (.slice none 0 0)]) 2 32 := by unfold Inf; kernel_rfl
theorem Ty.a27 : AggC Try.prog 27 := ⟨_, Try.underlying27, rfl⟩
theorem Ty.s27 : (Try.prog.info? 27).map (·.size) = some 2 := by kernel_rfl
theorem Ty.p27 : plc Try.prog 27 = some [(0, 1), (1, 1)] := by kernel_rfl
theorem Ty.z27 : (Try.prog.info? 27).map (fun i => i.size == 0) = some false := by kernel_rfl
theorem Ty.i27 : Inf Try.prog 27 (.agg #[(.int .i64 0), (.slice none 0 0)]) 2 32 := by unfold Inf; kernel_rfl
theorem Ty.a28 : AggC Try.prog 28 := ⟨_, Try.underlying28, rfl⟩
theorem Ty.s28 : (Try.prog.info? 28).map (·.size) = some 7 := by kernel_rfl
theorem Ty.p28 : plc Try.prog 28 = some [(0, 1), (1, 1), (2, 1), (3, 1), (4, 2), (6, 1)] := by kernel_rfl
theorem Ty.z28 : (Try.prog.info? 28).map (fun i => i.size == 0) = some false := by kernel_rfl
theorem Ty.i28 : Inf Try.prog 28 (.agg #[(.int .i64 0), (.slice none 0 0), (.slice none 0 0), (.slice none 0 0), (.int .i64 0), (.slice none 0 0), (.slice none 0 0)]) 7 136 := by unfold Inf; kernel_rfl
theorem Ty.a29 : AggC Try.prog 29 := ⟨_, Try.underlying29, rfl⟩
theorem Ty.s29 : (Try.prog.info? 29).map (·.size) = some 7 := by kernel_rfl
theorem Ty.p29 : plc Try.prog 29 = some [(0, 1), (1, 1), (2, 1), (3, 1), (4, 2), (6, 1)] := by kernel_rfl
theorem Ty.z29 : (Try.prog.info? 29).map (fun i => i.size == 0) = some false := by kernel_rfl
theorem Ty.i29 : Inf Try.prog 29 (.agg #[(.int .i64 0), (.slice none 0 0), (.slice none 0 0), (.slice none 0 0), (.int .i64 0), (.slice none 0 0), (.slice none 0 0)]) 7 136 := by unfold Inf; kernel_rfl
theorem Ty.o38 : OneC Try.prog 38 := ⟨_, Try.underlying38, rfl⟩
theorem Ty.s38 : (Try.prog.info? 38).map (·.size) = some 1 := by kernel_rfl
theorem Ty.z38 : (Try.prog.info? 38).map (fun i => i.size == 0) = some false := by kernel_rfl
theorem Ty.i38 : Inf Try.prog 38 (.slice none 0 0) 1 24 := by unfold Inf; kernel_rfl
theorem Ty.o43 : OneC Try.prog 43 := ⟨_, Try.underlying43, rfl⟩
theorem Ty.s43 : (Try.prog.info? 43).map (·.size) = some 1 := by kernel_rfl
theorem Ty.z43 : (Try.prog.info? 43).map (fun i => i.size == 0) = some false := by kernel_rfl
theorem Ty.i43 : Inf Try.prog 43 (.slice none 0 0) 1 24 := by unfold Inf; kernel_rfl
theorem Ty.o44 : OneC Try.prog 44 := ⟨_, Try.underlying44, rfl⟩
theorem Ty.s44 : (Try.prog.info? 44).map (·.size) = some 1 := by kernel_rfl
theorem Ty.z44 : (Try.prog.info? 44).map (fun i => i.size == 0) = some false := by kernel_rfl
theorem Ty.i44 : Inf Try.prog 44 (.slice none 0 0) 1 24 := by unfold Inf; kernel_rfl
theorem Ty.o45 : OneC Try.prog 45 := ⟨_, Try.underlying45, rfl⟩
theorem Ty.s45 : (Try.prog.info? 45).map (·.size) = some 1 := by kernel_rfl
theorem Ty.z45 : (Try.prog.info? 45).map (fun i => i.size == 0) = some false := by kernel_rfl
theorem Ty.i45 : Inf Try.prog 45 (.slice none 0 0) 1 24 := by unfold Inf; kernel_rfl
theorem Ty.a46 : AggC Try.prog 46 := ⟨_, Try.underlying46, rfl⟩
theorem Ty.s46 : (Try.prog.info? 46).map (·.size) = some 2 := by kernel_rfl
theorem Ty.p46 : plc Try.prog 46 = some [(0, 1), (1, 1)] := by kernel_rfl
theorem Ty.z46 : (Try.prog.info? 46).map (fun i => i.size == 0) = some false := by kernel_rfl
theorem Ty.i46 : Inf Try.prog 46 (.agg #[(.int .i64 0), (.slice none 0 0)]) 2 32 := by unfold Inf; kernel_rfl
theorem Ty.a47 : AggC Try.prog 47 := ⟨_, Try.underlying47, rfl⟩
theorem Ty.s47 : (Try.prog.info? 47).map (·.size) = some 7 := by kernel_rfl
theorem Ty.p47 : plc Try.prog 47 = some [(0, 1), (1, 1), (2, 1), (3, 1), (4, 2), (6, 1)] := by kernel_rfl
theorem Ty.z47 : (Try.prog.info? 47).map (fun i => i.size == 0) = some false := by kernel_rfl
theorem Ty.i47 : Inf Try.prog 47 (.agg #[(.int .i64 0), (.slice none 0 0), (.slice none 0 0), (.slice none 0 0), (.int .i64 0), (.slice none 0 0), (.slice none 0 0)]) 7 136 := by unfold Inf; kernel_rfl
theorem Ty.a48 : AggC Try.prog 48 := ⟨_, Try.underlying48, rfl⟩
theorem Ty.s48 : (Try.prog.info? 48).map (·.size) = some 7 := by kernel_rfl
theorem Ty.p48 : plc Try.prog 48 = some [(0, 1), (1, 1), (2, 1), (3, 1), (4, 2), (6, 1)] := by kernel_rfl
theorem Ty.z48 : (Try.prog.info? 48).map (fun i => i.size == 0) = some false := by kernel_rfl
theorem Ty.i48 : Inf Try.prog 48 (.agg #[(.int .i64 0), (.slice none 0 0), (.slice none 0 0), (.slice none 0 0), (.int .i64 0), (.slice none 0 0), (.slice none 0 0)]) 7 136 := by unfold Inf; kernel_rfl
theorem Ty.o67 : OneC Try.prog 67 := ⟨_, Try.underlying67, rfl⟩
theorem Ty.s67 : (Try.prog.info? 67).map (·.size) = some 1 := by kernel_rfl
theorem Ty.z67 : (Try.prog.info? 67).map (fun i => i.size == 0) = some false := by kernel_rfl
theorem Ty.i67 : Inf Try.prog 67 (.pointer none) 1 8 := by unfold Inf; kernel_rfl
theorem Ty.o70 : OneC Try.prog 70 := ⟨_, Try.underlying70, rfl⟩
theorem Ty.s70 : (Try.prog.info? 70).map (·.size) = some 1 := by kernel_rfl
theorem Ty.z70 : (Try.prog.info? 70).map (fun i => i.size == 0) = some false := by kernel_rfl
theorem Ty.i70 : Inf Try.prog 70 (.int .i64 0) 1 8 := by unfold Inf; kernel_rfl
theorem Ty.a77 : AggC Try.prog 77 := ⟨_, Try.underlying77, rfl⟩
theorem Ty.s77 : (Try.prog.info? 77).map (·.size) = some 2 := by kernel_rfl
theorem Ty.p77 : plc Try.prog 77 = some [(0, 1), (1, 1)] := by kernel_rfl
theorem Ty.z77 : (Try.prog.info? 77).map (fun i => i.size == 0) = some false := by kernel_rfl
theorem Ty.i77 : Inf Try.prog 77 (.agg #[(.int .i64 0), (.int .i64 0)]) 2 16 := by unfold Inf; kernel_rfl
theorem Ty.a78 : AggC Try.prog 78 := ⟨_, Try.underlying78, rfl⟩
theorem Ty.s78 : (Try.prog.info? 78).map (·.size) = some 2 := by kernel_rfl
theorem Ty.p78 : plc Try.prog 78 = some [(0, 1), (1, 1)] := by kernel_rfl
theorem Ty.z78 : (Try.prog.info? 78).map (fun i => i.size == 0) = some false := by kernel_rfl
theorem Ty.i78 : Inf Try.prog 78 (.agg #[(.int .i64 0), (.int .i64 0)]) 2 16 := by unfold Inf; kernel_rfl
theorem Ty.a94 : AggC Try.prog 94 := ⟨_, Try.underlying94, rfl⟩
theorem Ty.s94 : (Try.prog.info? 94).map (·.size) = some 3 := by kernel_rfl
theorem Ty.p94 : plc Try.prog 94 = some [(0, 1), (1, 1), (2, 1)] := by kernel_rfl
theorem Ty.z94 : (Try.prog.info? 94).map (fun i => i.size == 0) = some false := by kernel_rfl
theorem Ty.i94 : Inf Try.prog 94 (.agg #[(.int .i64 0), (.int .i64 0), (.int .i64 0)]) 3 24 := by unfold Inf; kernel_rfl
theorem Ty.a95 : AggC Try.prog 95 := ⟨_, Try.underlying95, rfl⟩
theorem Ty.s95 : (Try.prog.info? 95).map (·.size) = some 3 := by kernel_rfl
theorem Ty.p95 : plc Try.prog 95 = some [(0, 1), (1, 1), (2, 1)] := by kernel_rfl
theorem Ty.z95 : (Try.prog.info? 95).map (fun i => i.size == 0) = some false := by kernel_rfl
theorem Ty.i95 : Inf Try.prog 95 (.agg #[(.int .i64 0), (.int .i64 0), (.int .i64 0)]) 3 24 := by unfold Inf; kernel_rfl
theorem Ty.a96 : AggC Try.prog 96 := ⟨_, Try.underlying96, rfl⟩
theorem Ty.s96 : (Try.prog.info? 96).map (·.size) = some 3 := by kernel_rfl
theorem Ty.p96 : plc Try.prog 96 = some [(0, 1), (1, 1), (2, 1)] := by kernel_rfl
theorem Ty.z96 : (Try.prog.info? 96).map (fun i => i.size == 0) = some false := by kernel_rfl
theorem Ty.i96 : Inf Try.prog 96 (.agg #[(.int .i64 0), (.int .i64 0), (.slice none 0 0)]) 3 40 := by unfold Inf; kernel_rfl
theorem Ty.a97 : AggC Try.prog 97 := ⟨_, Try.underlying97, rfl⟩
theorem Ty.s97 : (Try.prog.info? 97).map (·.size) = some 3 := by kernel_rfl
theorem Ty.p97 : plc Try.prog 97 = some [(0, 1), (1, 1), (2, 1)] := by kernel_rfl
theorem Ty.z97 : (Try.prog.info? 97).map (fun i => i.size == 0) = some false := by kernel_rfl
theorem Ty.i97 : Inf Try.prog 97 (.agg #[(.int .i64 0), (.int .i64 0), (.slice none 0 0)]) 3 40 := by unfold Inf; kernel_rfl
theorem Ty.a103 : AggC Try.prog 103 := ⟨_, Try.underlying103, rfl⟩
theorem Ty.s103 : (Try.prog.info? 103).map (·.size) = some 2 := by kernel_rfl
theorem Ty.p103 : plc Try.prog 103 = some [(0, 1), (1, 1)] := by kernel_rfl
theorem Ty.z103 : (Try.prog.info? 103).map (fun i => i.size == 0) = some false := by kernel_rfl
theorem Ty.i103 : Inf Try.prog 103 (.agg #[(.slice none 0 0), (.int .i64 0)]) 2 32 := by unfold Inf; kernel_rfl
theorem Ty.a104 : AggC Try.prog 104 := ⟨_, Try.underlying104, rfl⟩
theorem Ty.s104 : (Try.prog.info? 104).map (·.size) = some 2 := by kernel_rfl
theorem Ty.p104 : plc Try.prog 104 = some [(0, 1), (1, 1)] := by kernel_rfl
theorem Ty.z104 : (Try.prog.info? 104).map (fun i => i.size == 0) = some false := by kernel_rfl
theorem Ty.i104 : Inf Try.prog 104 (.agg #[(.slice none 0 0), (.int .i64 0)]) 2 32 := by unfold Inf; kernel_rfl
theorem Ty.o105 : OneC Try.prog 105 := ⟨_, Try.underlying105, rfl⟩
theorem Ty.s105 : (Try.prog.info? 105).map (·.size) = some 1 := by kernel_rfl
theorem Ty.z105 : (Try.prog.info? 105).map (fun i => i.size == 0) = some false := by kernel_rfl
theorem Ty.i105 : Inf Try.prog 105 (.pointer none) 1 8 := by unfold Inf; kernel_rfl
theorem Ty.o109 : OneC Try.prog 109 := ⟨_, Try.underlying109, rfl⟩
theorem Ty.s109 : (Try.prog.info? 109).map (·.size) = some 1 := by kernel_rfl
theorem Ty.z109 : (Try.prog.info? 109).map (fun i => i.size == 0) = some false := by kernel_rfl
theorem Ty.i109 : Inf Try.prog 109 (.pointer none) 1 8 := by unfold Inf; kernel_rfl
theorem Ty.a114 : AggC Try.prog 114 := ⟨_, Try.underlying114, rfl⟩
theorem Ty.s114 : (Try.prog.info? 114).map (·.size) = some 3 := by kernel_rfl
theorem Ty.p114 : plc Try.prog 114 = some [(0, 1), (1, 1), (2, 1)] := by kernel_rfl
theorem Ty.z114 : (Try.prog.info? 114).map (fun i => i.size == 0) = some false := by kernel_rfl
theorem Ty.i114 : Inf Try.prog 114 (.agg #[(.int .i64 0), (.int .i64 0), (.slice none 0 0)]) 3 40 := by unfold Inf; kernel_rfl
theorem Ty.a117 : AggC Try.prog 117 := ⟨_, Try.underlying117, rfl⟩
theorem Ty.s117 : (Try.prog.info? 117).map (·.size) = some 3 := by kernel_rfl
theorem Ty.p117 : plc Try.prog 117 = some [(0, 1), (1, 1), (2, 1)] := by kernel_rfl
theorem Ty.z117 : (Try.prog.info? 117).map (fun i => i.size == 0) = some false := by kernel_rfl
theorem Ty.i117 : Inf Try.prog 117 (.agg #[(.int .i64 0), (.int .i64 0), (.int .i64 0)]) 3 24 := by unfold Inf; kernel_rfl
theorem Ty.a119 : AggC Try.prog 119 := ⟨_, Try.underlying119, rfl⟩
theorem Ty.s119 : (Try.prog.info? 119).map (·.size) = some 2 := by kernel_rfl
theorem Ty.p119 : plc Try.prog 119 = some [(0, 1), (1, 1)] := by kernel_rfl
theorem Ty.z119 : (Try.prog.info? 119).map (fun i => i.size == 0) = some false := by kernel_rfl
theorem Ty.i119 : Inf Try.prog 119 (.agg #[(.int .i64 0), (.int .i64 0)]) 2 16 := by unfold Inf; kernel_rfl
theorem Ty.a130 : AggC Try.prog 130 := ⟨_, Try.underlying130, rfl⟩
theorem Ty.s130 : (Try.prog.info? 130).map (·.size) = some 4 := by kernel_rfl
theorem Ty.p130 : plc Try.prog 130 = some [(0, 1), (1, 1), (2, 1), (3, 1)] := by kernel_rfl
theorem Ty.z130 : (Try.prog.info? 130).map (fun i => i.size == 0) = some false := by kernel_rfl
theorem Ty.i130 : Inf Try.prog 130 (.agg #[(.pointer none), (.pointer none), (.pointer none), (.string ByteArray.empty)]) 4 40 := by unfold Inf; kernel_rfl
theorem Ty.a131 : AggC Try.prog 131 := ⟨_, Try.underlying131, rfl⟩
theorem Ty.s131 : (Try.prog.info? 131).map (·.size) = some 4 := by kernel_rfl
theorem Ty.p131 : plc Try.prog 131 = some [(0, 1), (1, 1), (2, 1), (3, 1)] := by kernel_rfl
theorem Ty.z131 : (Try.prog.info? 131).map (fun i => i.size == 0) = some false := by kernel_rfl
theorem Ty.i131 : Inf Try.prog 131 (.agg #[(.pointer none), (.pointer none), (.pointer none), (.string ByteArray.empty)]) 4 40 := by unfold Inf; kernel_rfl
theorem Ty.a132 : AggC Try.prog 132 := ⟨_, Try.underlying132, rfl⟩
theorem Ty.s132 : (Try.prog.info? 132).map (·.size) = some 0 := by kernel_rfl
theorem Ty.z132 : (Try.prog.info? 132).map (fun i => i.size == 0) = some true := by kernel_rfl
theorem Ty.i132 : Inf Try.prog 132 (.agg #[]) 0 0 := by unfold Inf; kernel_rfl
theorem Ty.a133 : AggC Try.prog 133 := ⟨_, Try.underlying133, rfl⟩
theorem Ty.s133 : (Try.prog.info? 133).map (·.size) = some 0 := by kernel_rfl
theorem Ty.p133 : plc Try.prog 133 = some [(0, 0)] := by kernel_rfl
theorem Ty.z133 : (Try.prog.info? 133).map (fun i => i.size == 0) = some true := by kernel_rfl
theorem Ty.i133 : Inf Try.prog 133 (.agg #[]) 0 0 := by unfold Inf; kernel_rfl
theorem Ty.a134 : AggC Try.prog 134 := ⟨_, Try.underlying134, rfl⟩
theorem Ty.s134 : (Try.prog.info? 134).map (·.size) = some 0 := by kernel_rfl
theorem Ty.p134 : plc Try.prog 134 = some [(0, 0)] := by kernel_rfl
theorem Ty.z134 : (Try.prog.info? 134).map (fun i => i.size == 0) = some true := by kernel_rfl
theorem Ty.i134 : Inf Try.prog 134 (.agg #[]) 0 0 := by unfold Inf; kernel_rfl
theorem Ty.o136 : OneC Try.prog 136 := ⟨_, Try.underlying136, rfl⟩
theorem Ty.s136 : (Try.prog.info? 136).map (·.size) = some 1 := by kernel_rfl
theorem Ty.z136 : (Try.prog.info? 136).map (fun i => i.size == 0) = some false := by kernel_rfl
theorem Ty.i136 : Inf Try.prog 136 (.int .u32 0) 1 4 := by unfold Inf; kernel_rfl
theorem Ty.o137 : OneC Try.prog 137 := ⟨_, Try.underlying137, rfl⟩
theorem Ty.s137 : (Try.prog.info? 137).map (·.size) = some 1 := by kernel_rfl
theorem Ty.z137 : (Try.prog.info? 137).map (fun i => i.size == 0) = some false := by kernel_rfl
theorem Ty.i137 : Inf Try.prog 137 (.int .u8 0) 1 1 := by unfold Inf; kernel_rfl
theorem Ty.o138 : OneC Try.prog 138 := ⟨_, Try.underlying138, rfl⟩
theorem Ty.s138 : (Try.prog.info? 138).map (·.size) = some 1 := by kernel_rfl
theorem Ty.z138 : (Try.prog.info? 138).map (fun i => i.size == 0) = some false := by kernel_rfl
theorem Ty.i138 : Inf Try.prog 138 (.int .u8 0) 1 1 := by unfold Inf; kernel_rfl
theorem Ty.o140 : OneC Try.prog 140 := ⟨_, Try.underlying140, rfl⟩
theorem Ty.s140 : (Try.prog.info? 140).map (·.size) = some 1 := by kernel_rfl
theorem Ty.z140 : (Try.prog.info? 140).map (fun i => i.size == 0) = some false := by kernel_rfl
theorem Ty.i140 : Inf Try.prog 140 (.pointer none) 1 8 := by unfold Inf; kernel_rfl
theorem Ty.o141 : OneC Try.prog 141 := ⟨_, Try.underlying141, rfl⟩
theorem Ty.s141 : (Try.prog.info? 141).map (·.size) = some 1 := by kernel_rfl
theorem Ty.z141 : (Try.prog.info? 141).map (fun i => i.size == 0) = some false := by kernel_rfl
theorem Ty.i141 : Inf Try.prog 141 (.int .i32 0) 1 4 := by unfold Inf; kernel_rfl
theorem Ty.o142 : OneC Try.prog 142 := ⟨_, Try.underlying142, rfl⟩
theorem Ty.s142 : (Try.prog.info? 142).map (·.size) = some 1 := by kernel_rfl
theorem Ty.z142 : (Try.prog.info? 142).map (fun i => i.size == 0) = some false := by kernel_rfl
theorem Ty.i142 : Inf Try.prog 142 (.int .i32 0) 1 4 := by unfold Inf; kernel_rfl
theorem Ty.a143 : AggC Try.prog 143 := ⟨_, Try.underlying143, rfl⟩
theorem Ty.s143 : (Try.prog.info? 143).map (·.size) = some 11 := by kernel_rfl
theorem Ty.p143 : plc Try.prog 143 = some [(0, 1), (1, 1), (2, 1), (3, 1), (4, 1), (5, 1), (6, 1), (7, 1), (8, 1), (9, 1), (10, 1)] := by kernel_rfl
theorem Ty.z143 : (Try.prog.info? 143).map (fun i => i.size == 0) = some false := by kernel_rfl
theorem Ty.i143 : Inf Try.prog 143 (.agg #[(.int .u64 0), (.int .u64 0), (.int .u32 0), (.int .u8 0), (.int .u8 0), (.int .u8 0), (.int .u8 0), .nilFunc, (.pointer none), (.int .i32 0), (.int .i32 0)]) 11 48 := by unfold Inf; kernel_rfl
theorem Ty.a144 : AggC Try.prog 144 := ⟨_, Try.underlying144, rfl⟩
theorem Ty.s144 : (Try.prog.info? 144).map (·.size) = some 11 := by kernel_rfl
theorem Ty.p144 : plc Try.prog 144 = some [(0, 1), (1, 1), (2, 1), (3, 1), (4, 1), (5, 1), (6, 1), (7, 1), (8, 1), (9, 1), (10, 1)] := by kernel_rfl
theorem Ty.z144 : (Try.prog.info? 144).map (fun i => i.size == 0) = some false := by kernel_rfl
theorem Ty.i144 : Inf Try.prog 144 (.agg #[(.int .u64 0), (.int .u64 0), (.int .u32 0), (.int .u8 0), (.int .u8 0), (.int .u8 0), (.int .u8 0), .nilFunc, (.pointer none), (.int .i32 0), (.int .i32 0)]) 11 48 := by unfold Inf; kernel_rfl
theorem Ty.o146 : OneC Try.prog 146 := ⟨_, Try.underlying146, rfl⟩
theorem Ty.s146 : (Try.prog.info? 146).map (·.size) = some 1 := by kernel_rfl
theorem Ty.z146 : (Try.prog.info? 146).map (fun i => i.size == 0) = some false := by kernel_rfl
theorem Ty.i146 : Inf Try.prog 146 (.pointer none) 1 8 := by unfold Inf; kernel_rfl
end Go.Proofs.Ytjfjnmbgimfmaaa
