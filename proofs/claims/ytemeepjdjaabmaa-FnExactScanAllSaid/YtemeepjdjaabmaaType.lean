/- Closed facts on the types of the program. Conditions: none. -/
import Derived.Test.YtemeepjdjaabmaaBd
import Derived.Test.YtemeepjdjaabmaaProg
namespace Go.Proofs.Ytemeepjdjaabmaa
open Go Go.Ro
theorem Ty.mixed : Try.prog.follows .mixedOrders = true := by kernel_rfl
theorem Ty.o2 : OneC Try.prog 2 := ⟨_, Try.underlying2, rfl⟩
theorem Ty.s2 : (Try.prog.info? 2).map (·.size) = some 1 := by kernel_rfl
theorem Ty.z2 : (Try.prog.info? 2).map (fun i => i.size == 0) = some false := by kernel_rfl
theorem Ty.i2 : Inf Try.prog 2 (.int .i64 0) 1 8 := by unfold Inf; kernel_rfl
theorem Ty.o3 : OneC Try.prog 3 := ⟨_, Try.underlying3, rfl⟩
theorem Ty.s3 : (Try.prog.info? 3).map (·.size) = some 1 := by kernel_rfl
theorem Ty.z3 : (Try.prog.info? 3).map (fun i => i.size == 0) = some false := by kernel_rfl
theorem Ty.i3 : Inf Try.prog 3 (.int .i64 0) 1 8 := by unfold Inf; kernel_rfl
theorem Ty.o4 : OneC Try.prog 4 := ⟨_, Try.underlying4, rfl⟩
theorem Ty.s4 : (Try.prog.info? 4).map (·.size) = some 1 := by kernel_rfl
theorem Ty.z4 : (Try.prog.info? 4).map (fun i => i.size == 0) = some false := by kernel_rfl
theorem Ty.i4 : Inf Try.prog 4 (.bool false) 1 1 := by unfold Inf; kernel_rfl
theorem Ty.o5 : OneC Try.prog 5 := ⟨_, Try.underlying5, rfl⟩
theorem Ty.s5 : (Try.prog.info? 5).map (·.size) = some 1 := by kernel_rfl
theorem Ty.z5 : (Try.prog.info? 5).map (fun i => i.size == 0) = some false := by kernel_rfl
theorem Ty.i5 : Inf Try.prog 5 (.int .u8 0) 1 1 := by unfold Inf; kernel_rfl
theorem Ty.o6 : OneC Try.prog 6 := ⟨_, Try.underlying6, rfl⟩
theorem Ty.s6 : (Try.prog.info? 6).map (·.size) = some 1 := by kernel_rfl
theorem Ty.z6 : (Try.prog.info? 6).map (fun i => i.size == 0) = some false := by kernel_rfl
theorem Ty.i6 : Inf Try.prog 6 (.int .u8 0) 1 1 := by unfold Inf; kernel_rfl
theorem Ty.a7 : AggC Try.prog 7 := ⟨_, Try.underlying7, rfl⟩
theorem Ty.s7 : (Try.prog.info? 7).map (·.size) = some 4 := by kernel_rfl
theorem Ty.p7 : plc Try.prog 7 = some [(0, 1), (1, 1), (2, 1), (3, 1)] := by kernel_rfl
theorem Ty.z7 : (Try.prog.info? 7).map (fun i => i.size == 0) = some false := by kernel_rfl
theorem Ty.i7 : Inf Try.prog 7 (.agg #[(.int .i64 0), (.int .i64 0), (.bool false), (.int .u8 0)]) 4 24 := by unfold Inf; kernel_rfl
theorem Ty.a8 : AggC Try.prog 8 := ⟨_, Try.underlying8, rfl⟩
theorem Ty.s8 : (Try.prog.info? 8).map (·.size) = some 4 := by kernel_rfl
theorem Ty.p8 : plc Try.prog 8 = some [(0, 1), (1, 1), (2, 1), (3, 1)] := by kernel_rfl
theorem Ty.z8 : (Try.prog.info? 8).map (fun i => i.size == 0) = some false := by kernel_rfl
theorem Ty.i8 : Inf Try.prog 8 (.agg #[(.int .i64 0), (.int .i64 0), (.bool false), (.int .u8 0)]) 4 24 := by unfold Inf; kernel_rfl
theorem Ty.o9 : OneC Try.prog 9 := ⟨_, Try.underlying9, rfl⟩
theorem Ty.s9 : (Try.prog.info? 9).map (·.size) = some 1 := by kernel_rfl
theorem Ty.z9 : (Try.prog.info? 9).map (fun i => i.size == 0) = some false := by kernel_rfl
theorem Ty.i9 : Inf Try.prog 9 (.string ByteArray.empty) 1 16 := by unfold Inf; kernel_rfl
theorem Ty.o10 : OneC Try.prog 10 := ⟨_, Try.underlying10, rfl⟩
theorem Ty.s10 : (Try.prog.info? 10).map (·.size) = some 1 := by kernel_rfl
theorem Ty.z10 : (Try.prog.info? 10).map (fun i => i.size == 0) = some false := by kernel_rfl
theorem Ty.i10 : Inf Try.prog 10 (.string ByteArray.empty) 1 16 := by unfold Inf; kernel_rfl
theorem Ty.o11 : OneC Try.prog 11 := ⟨_, Try.underlying11, rfl⟩
theorem Ty.s11 : (Try.prog.info? 11).map (·.size) = some 1 := by kernel_rfl
theorem Ty.z11 : (Try.prog.info? 11).map (fun i => i.size == 0) = some false := by kernel_rfl
theorem Ty.i11 : Inf Try.prog 11 (.string ByteArray.empty) 1 16 := by unfold Inf; kernel_rfl
theorem Ty.o12 : OneC Try.prog 12 := ⟨_, Try.underlying12, rfl⟩
theorem Ty.s12 : (Try.prog.info? 12).map (·.size) = some 1 := by kernel_rfl
theorem Ty.z12 : (Try.prog.info? 12).map (fun i => i.size == 0) = some false := by kernel_rfl
theorem Ty.i12 : Inf Try.prog 12 (.int .u64 0) 1 8 := by unfold Inf; kernel_rfl
theorem Ty.a13 : AggC Try.prog 13 := ⟨_, Try.underlying13, rfl⟩
theorem Ty.s13 : (Try.prog.info? 13).map (·.size) = some 2 := by kernel_rfl
theorem Ty.p13 : plc Try.prog 13 = some [(0, 1), (1, 1)] := by kernel_rfl
theorem Ty.z13 : (Try.prog.info? 13).map (fun i => i.size == 0) = some false := by kernel_rfl
theorem Ty.i13 : Inf Try.prog 13 (.agg #[(.string ByteArray.empty), (.int .u64 0)]) 2 24 := by unfold Inf; kernel_rfl
theorem Ty.a14 : AggC Try.prog 14 := ⟨_, Try.underlying14, rfl⟩
theorem Ty.s14 : (Try.prog.info? 14).map (·.size) = some 2 := by kernel_rfl
theorem Ty.p14 : plc Try.prog 14 = some [(0, 1), (1, 1)] := by kernel_rfl
theorem Ty.z14 : (Try.prog.info? 14).map (fun i => i.size == 0) = some false := by kernel_rfl
theorem Ty.i14 : Inf Try.prog 14 (.agg #[(.string ByteArray.empty), (.int .u64 0)]) 2 24 := by unfold Inf; kernel_rfl
theorem Ty.o15 : OneC Try.prog 15 := ⟨_, Try.underlying15, rfl⟩
theorem Ty.s15 : (Try.prog.info? 15).map (·.size) = some 1 := by kernel_rfl
theorem Ty.z15 : (Try.prog.info? 15).map (fun i => i.size == 0) = some false := by kernel_rfl
theorem Ty.i15 : Inf Try.prog 15 (.pointer none) 1 8 := by unfold Inf; kernel_rfl
theorem Ty.o16 : OneC Try.prog 16 := ⟨_, Try.underlying16, rfl⟩
theorem Ty.s16 : (Try.prog.info? 16).map (·.size) = some 1 := by kernel_rfl
theorem Ty.z16 : (Try.prog.info? 16).map (fun i => i.size == 0) = some false := by kernel_rfl
theorem Ty.i16 : Inf Try.prog 16 (.pointer none) 1 8 := by unfold Inf; kernel_rfl
theorem Ty.o17 : OneC Try.prog 17 := ⟨_, Try.underlying17, rfl⟩
theorem Ty.s17 : (Try.prog.info? 17).map (·.size) = some 1 := by kernel_rfl
theorem Ty.z17 : (Try.prog.info? 17).map (fun i => i.size == 0) = some false := by kernel_rfl
theorem Ty.i17 : Inf Try.prog 17 (.pointer none) 1 8 := by unfold Inf; kernel_rfl
theorem Ty.a18 : AggC Try.prog 18 := ⟨_, Try.underlying18, rfl⟩
theorem Ty.s18 : (Try.prog.info? 18).map (·.size) = some 1 := by kernel_rfl
theorem Ty.p18 : plc Try.prog 18 = some [(0, 1)] := by kernel_rfl
theorem Ty.z18 : (Try.prog.info? 18).map (fun i => i.size == 0) = some false := by kernel_rfl
theorem Ty.i18 : Inf Try.prog 18 (.agg #[(.pointer none)]) 1 8 := by unfold Inf; kernel_rfl
theorem Ty.a19 : AggC Try.prog 19 := ⟨_, Try.underlying19, rfl⟩
theorem Ty.s19 : (Try.prog.info? 19).map (·.size) = some 1 := by kernel_rfl
theorem Ty.p19 : plc Try.prog 19 = some [(0, 1)] := by kernel_rfl
theorem Ty.z19 : (Try.prog.info? 19).map (fun i => i.size == 0) = some false := by kernel_rfl
theorem Ty.i19 : Inf Try.prog 19 (.agg #[(.pointer none)]) 1 8 := by unfold Inf; kernel_rfl
theorem Ty.o20 : OneC Try.prog 20 := ⟨_, Try.underlying20, rfl⟩
theorem Ty.s20 : (Try.prog.info? 20).map (·.size) = some 1 := by kernel_rfl
theorem Ty.z20 : (Try.prog.info? 20).map (fun i => i.size == 0) = some false := by kernel_rfl
theorem Ty.i20 : Inf Try.prog 20 .nilIface 1 16 := by unfold Inf; kernel_rfl
theorem Ty.o21 : OneC Try.prog 21 := ⟨_, Try.underlying21, rfl⟩
theorem Ty.s21 : (Try.prog.info? 21).map (·.size) = some 1 := by kernel_rfl
theorem Ty.z21 : (Try.prog.info? 21).map (fun i => i.size == 0) = some false := by kernel_rfl
theorem Ty.i21 : Inf Try.prog 21 (.int .i32 0) 1 4 := by unfold Inf; kernel_rfl
theorem Ty.o22 : OneC Try.prog 22 := ⟨_, Try.underlying22, rfl⟩
theorem Ty.s22 : (Try.prog.info? 22).map (·.size) = some 1 := by kernel_rfl
theorem Ty.z22 : (Try.prog.info? 22).map (fun i => i.size == 0) = some false := by kernel_rfl
theorem Ty.i22 : Inf Try.prog 22 (.slice none 0 0) 1 24 := by unfold Inf; kernel_rfl
theorem Ty.o23 : OneC Try.prog 23 := ⟨_, Try.underlying23, rfl⟩
theorem Ty.s23 : (Try.prog.info? 23).map (·.size) = some 1 := by kernel_rfl
theorem Ty.z23 : (Try.prog.info? 23).map (fun i => i.size == 0) = some false := by kernel_rfl
theorem Ty.i23 : Inf Try.prog 23 (.slice none 0 0) 1 24 := by unfold Inf; kernel_rfl
theorem Ty.o24 : OneC Try.prog 24 := ⟨_, Try.underlying24, rfl⟩
theorem Ty.s24 : (Try.prog.info? 24).map (·.size) = some 1 := by kernel_rfl
theorem Ty.z24 : (Try.prog.info? 24).map (fun i => i.size == 0) = some false := by kernel_rfl
theorem Ty.i24 : Inf Try.prog 24 (.slice none 0 0) 1 24 := by unfold Inf; kernel_rfl
theorem Ty.a32 : AggC Try.prog 32 := ⟨_, Try.underlying32, rfl⟩
theorem Ty.s32 : (Try.prog.info? 32).map (·.size) = some 2 := by kernel_rfl
theorem Ty.p32 : plc Try.prog 32 = some [(0, 1), (1, 1)] := by kernel_rfl
theorem Ty.z32 : (Try.prog.info? 32).map (fun i => i.size == 0) = some false := by kernel_rfl
theorem Ty.i32 : Inf Try.prog 32 (.agg #[(.int .i64 0), (.slice none 0 0)]) 2 32 := by unfold Inf; kernel_rfl
theorem Ty.a33 : AggC Try.prog 33 := ⟨_, Try.underlying33, rfl⟩
theorem Ty.s33 : (Try.prog.info? 33).map (·.size) = some 2 := by kernel_rfl
theorem Ty.p33 : plc Try.prog 33 = some [(0, 1), (1, 1)] := by kernel_rfl
theorem Ty.z33 : (Try.prog.info? 33).map (fun i => i.size == 0) = some false := by kernel_rfl
theorem Ty.i33 : Inf Try.prog 33 (.agg #[(.int .i64 0), (.slice none 0 0)]) 2 32 := by unfold Inf; kernel_rfl
theorem Ty.a37 : AggC Try.prog 37 := ⟨_, Try.underlying37, rfl⟩
theorem Ty.s37 : (Try.prog.info? 37).map (·.size) = some 2 := by kernel_rfl
theorem Ty.p37 : plc Try.prog 37 = some [(0, 1), (1, 1)] := by kernel_rfl
theorem Ty.z37 : (Try.prog.info? 37).map (fun i => i.size == 0) = some false := by kernel_rfl
theorem Ty.i37 : Inf Try.prog 37 (.agg #[(.int .i64 0), (.slice none 0 0)]) 2 32 := by unfold Inf; kernel_rfl
theorem Ty.o42 : OneC Try.prog 42 := ⟨_, Try.underlying42, rfl⟩
theorem Ty.s42 : (Try.prog.info? 42).map (·.size) = some 1 := by kernel_rfl
theorem Ty.z42 : (Try.prog.info? 42).map (fun i => i.size == 0) = some false := by kernel_rfl
theorem Ty.i42 : Inf Try.prog 42 (.slice none 0 0) 1 24 := by unfold Inf; kernel_rfl
theorem Ty.o52 : OneC Try.prog 52 := ⟨_, Try.underlying52, rfl⟩
theorem Ty.s52 : (Try.prog.info? 52).map (·.size) = some 1 := by kernel_rfl
theorem Ty.z52 : (Try.prog.info? 52).map (fun i => i.size == 0) = some false := by kernel_rfl
theorem Ty.i52 : Inf Try.prog 52 (.slice none 0 0) 1 24 := by unfold Inf; kernel_rfl
theorem Ty.a62 : AggC Try.prog 62 := ⟨_, Try.underlying62, rfl⟩
theorem Ty.s62 : (Try.prog.info? 62).map (·.size) = some 3 := by kernel_rfl
theorem Ty.p62 : plc Try.prog 62 = some [(0, 1), (1, 1), (2, 1)] := by kernel_rfl
theorem Ty.z62 : (Try.prog.info? 62).map (fun i => i.size == 0) = some false := by kernel_rfl
theorem Ty.i62 : Inf Try.prog 62 (.agg #[(.int .i64 0), (.int .i64 0), (.int .i64 0)]) 3 24 := by unfold Inf; kernel_rfl
theorem Ty.a63 : AggC Try.prog 63 := ⟨_, Try.underlying63, rfl⟩
theorem Ty.s63 : (Try.prog.info? 63).map (·.size) = some 3 := by kernel_rfl
theorem Ty.p63 : plc Try.prog 63 = some [(0, 1), (1, 1), (2, 1)] := by kernel_rfl
theorem Ty.z63 : (Try.prog.info? 63).map (fun i => i.size == 0) = some false := by kernel_rfl
theorem Ty.i63 : Inf Try.prog 63 (.agg #[(.int .i64 0), (.int .i64 0), (.int .i64 0)]) 3 24 := by unfold Inf; kernel_rfl
theorem Ty.o69 : OneC Try.prog 69 := ⟨_, Try.underlying69, rfl⟩
theorem Ty.s69 : (Try.prog.info? 69).map (·.size) = some 1 := by kernel_rfl
theorem Ty.z69 : (Try.prog.info? 69).map (fun i => i.size == 0) = some false := by kernel_rfl
theorem Ty.i69 : Inf Try.prog 69 (.pointer none) 1 8 := by unfold Inf; kernel_rfl
theorem Ty.o74 : OneC Try.prog 74 := ⟨_, Try.underlying74, rfl⟩
theorem Ty.s74 : (Try.prog.info? 74).map (·.size) = some 1 := by kernel_rfl
theorem Ty.z74 : (Try.prog.info? 74).map (fun i => i.size == 0) = some false := by kernel_rfl
theorem Ty.i74 : Inf Try.prog 74 (.map none) 1 8 := by unfold Inf; kernel_rfl
theorem Ty.a86 : AggC Try.prog 86 := ⟨_, Try.underlying86, rfl⟩
theorem Ty.s86 : (Try.prog.info? 86).map (·.size) = some 3 := by kernel_rfl
theorem Ty.p86 : plc Try.prog 86 = some [(0, 1), (1, 1), (2, 1)] := by kernel_rfl
theorem Ty.z86 : (Try.prog.info? 86).map (fun i => i.size == 0) = some false := by kernel_rfl
theorem Ty.i86 : Inf Try.prog 86 (.agg #[(.int .i64 0), (.int .i64 0), (.int .i64 0)]) 3 24 := by unfold Inf; kernel_rfl
theorem Ty.o88 : OneC Try.prog 88 := ⟨_, Try.underlying88, rfl⟩
theorem Ty.s88 : (Try.prog.info? 88).map (·.size) = some 1 := by kernel_rfl
theorem Ty.z88 : (Try.prog.info? 88).map (fun i => i.size == 0) = some false := by kernel_rfl
theorem Ty.i88 : Inf Try.prog 88 (.int .i64 0) 1 8 := by unfold Inf; kernel_rfl
theorem Ty.a90 : AggC Try.prog 90 := ⟨_, Try.underlying90, rfl⟩
theorem Ty.s90 : (Try.prog.info? 90).map (·.size) = some 2 := by kernel_rfl
theorem Ty.p90 : plc Try.prog 90 = some [(0, 1), (1, 1)] := by kernel_rfl
theorem Ty.z90 : (Try.prog.info? 90).map (fun i => i.size == 0) = some false := by kernel_rfl
theorem Ty.i90 : Inf Try.prog 90 (.agg #[(.slice none 0 0), (.int .i64 0)]) 2 32 := by unfold Inf; kernel_rfl
theorem Ty.a91 : AggC Try.prog 91 := ⟨_, Try.underlying91, rfl⟩
theorem Ty.s91 : (Try.prog.info? 91).map (·.size) = some 2 := by kernel_rfl
theorem Ty.p91 : plc Try.prog 91 = some [(0, 1), (1, 1)] := by kernel_rfl
theorem Ty.z91 : (Try.prog.info? 91).map (fun i => i.size == 0) = some false := by kernel_rfl
theorem Ty.i91 : Inf Try.prog 91 (.agg #[(.slice none 0 0), (.int .i64 0)]) 2 32 := by unfold Inf; kernel_rfl
theorem Ty.o95 : OneC Try.prog 95 := ⟨_, Try.underlying95, rfl⟩
theorem Ty.s95 : (Try.prog.info? 95).map (·.size) = some 1 := by kernel_rfl
theorem Ty.z95 : (Try.prog.info? 95).map (fun i => i.size == 0) = some false := by kernel_rfl
theorem Ty.i95 : Inf Try.prog 95 (.pointer none) 1 8 := by unfold Inf; kernel_rfl
theorem Ty.a96 : AggC Try.prog 96 := ⟨_, Try.underlying96, rfl⟩
theorem Ty.s96 : (Try.prog.info? 96).map (·.size) = some 2 := by kernel_rfl
theorem Ty.p96 : plc Try.prog 96 = some [(0, 1), (1, 1)] := by kernel_rfl
theorem Ty.z96 : (Try.prog.info? 96).map (fun i => i.size == 0) = some false := by kernel_rfl
theorem Ty.i96 : Inf Try.prog 96 (.agg #[(.int .i64 0), (.pointer none)]) 2 16 := by unfold Inf; kernel_rfl
theorem Ty.a97 : AggC Try.prog 97 := ⟨_, Try.underlying97, rfl⟩
theorem Ty.s97 : (Try.prog.info? 97).map (·.size) = some 2 := by kernel_rfl
theorem Ty.p97 : plc Try.prog 97 = some [(0, 1), (1, 1)] := by kernel_rfl
theorem Ty.z97 : (Try.prog.info? 97).map (fun i => i.size == 0) = some false := by kernel_rfl
theorem Ty.i97 : Inf Try.prog 97 (.agg #[(.int .i64 0), (.pointer none)]) 2 16 := by unfold Inf; kernel_rfl
theorem Ty.a104 : AggC Try.prog 104 := ⟨_, Try.underlying104, rfl⟩
theorem Ty.s104 : (Try.prog.info? 104).map (·.size) = some 4 := by kernel_rfl
theorem Ty.p104 : plc Try.prog 104 = some [(0, 1), (1, 1), (2, 1), (3, 1)] := by kernel_rfl
theorem Ty.z104 : (Try.prog.info? 104).map (fun i => i.size == 0) = some false := by kernel_rfl
theorem Ty.i104 : Inf Try.prog 104 (.agg #[(.pointer none), (.pointer none), (.pointer none), (.string ByteArray.empty)]) 4 40 := by unfold Inf; kernel_rfl
theorem Ty.a105 : AggC Try.prog 105 := ⟨_, Try.underlying105, rfl⟩
theorem Ty.s105 : (Try.prog.info? 105).map (·.size) = some 4 := by kernel_rfl
theorem Ty.p105 : plc Try.prog 105 = some [(0, 1), (1, 1), (2, 1), (3, 1)] := by kernel_rfl
theorem Ty.z105 : (Try.prog.info? 105).map (fun i => i.size == 0) = some false := by kernel_rfl
theorem Ty.i105 : Inf Try.prog 105 (.agg #[(.pointer none), (.pointer none), (.pointer none), (.string ByteArray.empty)]) 4 40 := by unfold Inf; kernel_rfl
theorem Ty.a106 : AggC Try.prog 106 := ⟨_, Try.underlying106, rfl⟩
theorem Ty.s106 : (Try.prog.info? 106).map (·.size) = some 0 := by kernel_rfl
theorem Ty.z106 : (Try.prog.info? 106).map (fun i => i.size == 0) = some true := by kernel_rfl
theorem Ty.i106 : Inf Try.prog 106 (.agg #[]) 0 0 := by unfold Inf; kernel_rfl
theorem Ty.a107 : AggC Try.prog 107 := ⟨_, Try.underlying107, rfl⟩
theorem Ty.s107 : (Try.prog.info? 107).map (·.size) = some 0 := by kernel_rfl
theorem Ty.p107 : plc Try.prog 107 = some [(0, 0)] := by kernel_rfl
theorem Ty.z107 : (Try.prog.info? 107).map (fun i => i.size == 0) = some true := by kernel_rfl
theorem Ty.i107 : Inf Try.prog 107 (.agg #[]) 0 0 := by unfold Inf; kernel_rfl
theorem Ty.a108 : AggC Try.prog 108 := ⟨_, Try.underlying108, rfl⟩
theorem Ty.s108 : (Try.prog.info? 108).map (·.size) = some 0 := by kernel_rfl
theorem Ty.p108 : plc Try.prog 108 = some [(0, 0)] := by kernel_rfl
theorem Ty.z108 : (Try.prog.info? 108).map (fun i => i.size == 0) = some true := by kernel_rfl
theorem Ty.i108 : Inf Try.prog 108 (.agg #[]) 0 0 := by unfold Inf; kernel_rfl
theorem Ty.o110 : OneC Try.prog 110 := ⟨_, Try.underlying110, rfl⟩
theorem Ty.s110 : (Try.prog.info? 110).map (·.size) = some 1 := by kernel_rfl
theorem Ty.z110 : (Try.prog.info? 110).map (fun i => i.size == 0) = some false := by kernel_rfl
theorem Ty.i110 : Inf Try.prog 110 (.int .u32 0) 1 4 := by unfold Inf; kernel_rfl
theorem Ty.o111 : OneC Try.prog 111 := ⟨_, Try.underlying111, rfl⟩
theorem Ty.s111 : (Try.prog.info? 111).map (·.size) = some 1 := by kernel_rfl
theorem Ty.z111 : (Try.prog.info? 111).map (fun i => i.size == 0) = some false := by kernel_rfl
theorem Ty.i111 : Inf Try.prog 111 (.int .u8 0) 1 1 := by unfold Inf; kernel_rfl
theorem Ty.o112 : OneC Try.prog 112 := ⟨_, Try.underlying112, rfl⟩
theorem Ty.s112 : (Try.prog.info? 112).map (·.size) = some 1 := by kernel_rfl
theorem Ty.z112 : (Try.prog.info? 112).map (fun i => i.size == 0) = some false := by kernel_rfl
theorem Ty.i112 : Inf Try.prog 112 (.int .u8 0) 1 1 := by unfold Inf; kernel_rfl
theorem Ty.o114 : OneC Try.prog 114 := ⟨_, Try.underlying114, rfl⟩
theorem Ty.s114 : (Try.prog.info? 114).map (·.size) = some 1 := by kernel_rfl
theorem Ty.z114 : (Try.prog.info? 114).map (fun i => i.size == 0) = some false := by kernel_rfl
theorem Ty.i114 : Inf Try.prog 114 (.pointer none) 1 8 := by unfold Inf; kernel_rfl
theorem Ty.o115 : OneC Try.prog 115 := ⟨_, Try.underlying115, rfl⟩
theorem Ty.s115 : (Try.prog.info? 115).map (·.size) = some 1 := by kernel_rfl
theorem Ty.z115 : (Try.prog.info? 115).map (fun i => i.size == 0) = some false := by kernel_rfl
theorem Ty.i115 : Inf Try.prog 115 (.int .i32 0) 1 4 := by unfold Inf; kernel_rfl
theorem Ty.o116 : OneC Try.prog 116 := ⟨_, Try.underlying116, rfl⟩
theorem Ty.s116 : (Try.prog.info? 116).map (·.size) = some 1 := by kernel_rfl
theorem Ty.z116 : (Try.prog.info? 116).map (fun i => i.size == 0) = some false := by kernel_rfl
theorem Ty.i116 : Inf Try.prog 116 (.int .i32 0) 1 4 := by unfold Inf; kernel_rfl
theorem Ty.a117 : AggC Try.prog 117 := ⟨_, Try.underlying117, rfl⟩
theorem Ty.s117 : (Try.prog.info? 117).map (·.size) = some 11 := by kernel_rfl
theorem Ty.p117 : plc Try.prog 117 = some [(0, 1), (1, 1), (2, 1), (3, 1), (4, 1), (5, 1), (6, 1), (7, 1), (8, 1), (9, 1), (10, 1)] := by kernel_rfl
theorem Ty.z117 : (Try.prog.info? 117).map (fun i => i.size == 0) = some false := by kernel_rfl
theorem Ty.i117 : Inf Try.prog 117 (.agg #[(.int .u64 0), (.int .u64 0), (.int .u32 0), (.int .u8 0), (.int .u8 0), (.int .u8 0), (.int .u8 0), .nilFunc, (.pointer none), (.int .i32 0), (.int .i32 0)]) 11 48 := by unfold Inf; kernel_rfl
theorem Ty.a118 : AggC Try.prog 118 := ⟨_, Try.underlying118, rfl⟩
theorem Ty.s118 : (Try.prog.info? 118).map (·.size) = some 11 := by kernel_rfl
theorem Ty.p118 : plc Try.prog 118 = some [(0, 1), (1, 1), (2, 1), (3, 1), (4, 1), (5, 1), (6, 1), (7, 1), (8, 1), (9, 1), (10, 1)] := by kernel_rfl
theorem Ty.z118 : (Try.prog.info? 118).map (fun i => i.size == 0) = some false := by kernel_rfl
theorem Ty.i118 : Inf Try.prog 118 (.agg #[(.int .u64 0), (.int .u64 0), (.int .u32 0), (.int .u8 0), (.int .u8 0), (.int .u8 0), (.int .u8 0), .nilFunc, (.pointer none), (.int .i32 0), (.int .i32 0)]) 11 48 := by unfold Inf; kernel_rfl
theorem Ty.o119 : OneC Try.prog 119 := ⟨_, Try.underlying119, rfl⟩
theorem Ty.s119 : (Try.prog.info? 119).map (·.size) = some 1 := by kernel_rfl
theorem Ty.z119 : (Try.prog.info? 119).map (fun i => i.size == 0) = some false := by kernel_rfl
theorem Ty.i119 : Inf Try.prog 119 (.pointer none) 1 8 := by unfold Inf; kernel_rfl
end Go.Proofs.Ytemeepjdjaabmaa
