/- The library contracts that the kit lays over this program: Split, Join, Itoa. Closed facts on the types of the program. Contracts of the small functions on numbers. Contracts of the functions on puzzles. Contracts of the reader of a code. Contracts of the functions that copy, compare and mark slices of numbers. Conditions: those that each row states. -/
import Derived.Shelf.Strings.OnBuilder
import Derived.Shelf.LaysM
import Derived.Shelf.Strconv.Itoa3
import Derived.Shelf.Strings.Split
import Derived.Lib.AppendIntMem
import Derived.Test.YtbiihblpgfgaoabGreatDoorProg
import Derived.Test.YtbiihblpgfgaoabGreatDoorFin
import Derived.Test.YtbiihblpgfgaoabGreatDoorPsM
namespace Go.Proofs
open Go.Shelf
def Tryz.lays156_ren : Go.Shelf.Ren := ⟨fun | 156 => 33 | 165 => 57 | 166 => 32 | 169 => 20 | 240 => 56 | 241 => 89 | 276 => 88 | 277 => 144 | n => n, fun | 31 => 47 | 9 => 9 | 3 => 3 | 4 => 4 | 0 => 0 | 20 => 20 | 72 => 42 | 76 => 69 | 70 => 40 | 37 => 22 | 75 => 68 | 127 => 72 | 164 => 119 | 5 => 5 | 80 => 54 | n => n, fun | n => n⟩
theorem Tryz.lays156 : Go.Proofs.Lays.n156 Tryz.prog Tryz.lays156_ren := {
  mixed := by kernel_rfl
  f156 := Tryz.func33.trans (congrArg some (by kernel_rfl))
  f165 := Tryz.func57.trans (congrArg some (by kernel_rfl))
  f166 := Tryz.func32.trans (congrArg some (by kernel_rfl))
  f169 := Tryz.func20.trans (congrArg some (by kernel_rfl))
  f240 := Tryz.func56.trans (congrArg some (by kernel_rfl))
  f241 := Tryz.func89.trans (congrArg some (by kernel_rfl))
  f276 := Tryz.func88.trans (congrArg some (by kernel_rfl))
  f277 := Tryz.func144.trans (congrArg some (by kernel_rfl))
  t0 := Tryz.underlying0
  a0 := Tryz.isAgg0
  z0 := Tryz.sizeOf0
  v0 := Tryz.zeroValue0
  t3 := Tryz.underlying3
  a3 := Tryz.isAgg3
  z3 := Tryz.sizeOf3
  v3 := Tryz.zeroValue3
  t4 := Tryz.underlying4
  a4 := Tryz.isAgg4
  z4 := Tryz.sizeOf4
  v4 := Tryz.zeroValue4
  t9 := Tryz.underlying9
  a9 := Tryz.isAgg9
  z9 := Tryz.sizeOf9
  v9 := Tryz.zeroValue9
  t20 := Tryz.underlying20
  a20 := Tryz.isAgg20
  z20 := Tryz.sizeOf20
  v20 := Tryz.zeroValue20
  t31 := Tryz.underlying47
  a31 := Tryz.isAgg47
  z31 := Tryz.sizeOf47
  v31 := Tryz.zeroValue47
  t37 := Tryz.underlying22
  a37 := Tryz.isAgg22
  z37 := Tryz.sizeOf22
  v37 := Tryz.zeroValue22
  t70 := Tryz.underlying40
  a70 := Tryz.isAgg40
  z70 := Tryz.sizeOf40
  v70 := Tryz.zeroValue40
  t72 := Tryz.underlying42
  a72 := Tryz.isAgg42
  z72 := Tryz.sizeOf42
  v72 := Tryz.zeroValue42
  t75 := Tryz.underlying68
  a75 := Tryz.isAgg68
  z75 := Tryz.sizeOf68
  v75 := Tryz.zeroValue68
  t76 := Tryz.underlying69
  a76 := Tryz.isAgg69
  z76 := Tryz.sizeOf69
  v76 := Tryz.zeroValue69
  t127 := Tryz.underlying72
  a127 := Tryz.isAgg72
  z127 := Tryz.sizeOf72
  v127 := Tryz.zeroValue72
  t164 := Tryz.underlying119
  a164 := Tryz.isAgg119
  z164 := Tryz.sizeOf119
  v164 := Tryz.zeroValue119 }
theorem Tryz.Builder_Extra_156 : Builder.Extra Tryz.prog Tryz.lays156_ren := {
  sizeBuilder := by kernel_rfl
  liesBuilder := by kernel_rfl
  t5 := Tryz.underlying5
  a5 := Tryz.isAgg5
  z5 := Tryz.sizeOf5
  v5 := Tryz.zeroValue5
  infoByte := by kernel_rfl
  cellsByte := by kernel_rfl
  sizeByte := by kernel_rfl
  neB5 := by decide }
open Go.RowKit in
theorem Tryz.strings_Join (bk o c : Nat) (xs : List ByteArray) (sep : ByteArray) (w : World) (hcells : ∀ (j : Nat) x, xs[j]? = some x → w.cell? ⟨bk, o + j, none⟩ = some (.string x)) (hbk : bk < w.heap.size) (hN : xs.length ≤ 140737488355328) (hcap : xs.length ≤ c) (hlen : (Lib.join (xs.map (·.data.toList)) sep.data.toList).length ≤ 140737488355328) :
    Calls Tryz.prog 33 #[.slice (some ⟨bk, o, none⟩) xs.length c, .string sep] w fun e w' => e = .returned (.string ⟨(Lib.join (xs.map (·.data.toList)) sep.data.toList).toArray⟩) ∧ Below w.heap.size w w' := Any.strings_Join Tryz.lays156 Tryz.Builder_Extra_156 bk o c xs sep w hcells hbk hN hcap hlen
def Tryz.laysM171_ren : Go.Shelf.Ren := ⟨fun | 171 => 18 | 243 => 31 | 246 => 55 | 283 => 84 | 284 => 85 | 285 => 86 | 286 => 87 | 129 => 140 | 317 => 139 | 318 => 141 | 319 => 142 | 320 => 143 | 337 => 185 | 338 => 186 | n => n, fun | 3 => 3 | 9 => 9 | 2 => 2 | 4 => 4 | 171 => 113 | 0 => 0 | 53 => 114 | 37 => 22 | 5 => 5 | 173 => 117 | 212 => 151 | 51 => 105 | 20 => 20 | 213 => 152 | 46 => 139 | 232 => 205 | 233 => 206 | n => n, fun | 17 => 1 | 18 => 4 | 19 => 5 | n => n⟩
theorem Tryz.laysM171 : Go.Proofs.LaysM.n171 Tryz.prog Tryz.laysM171_ren := {
  mixed := by kernel_rfl
  f129 := Tryz.func140.trans (congrArg some (by kernel_rfl))
  f171 := Tryz.func18.trans (congrArg some (by kernel_rfl))
  f243 := Tryz.func31.trans (congrArg some (by kernel_rfl))
  f246 := Tryz.func55.trans (congrArg some (by kernel_rfl))
  f283 := Tryz.func84.trans (congrArg some (by kernel_rfl))
  f284 := Tryz.func85.trans (congrArg some (by kernel_rfl))
  f285 := Tryz.func86.trans (congrArg some (by kernel_rfl))
  f286 := Tryz.func87.trans (congrArg some (by kernel_rfl))
  f317 := Tryz.func139.trans (congrArg some (by kernel_rfl))
  f318 := Tryz.func141.trans (congrArg some (by kernel_rfl))
  f319 := Tryz.func142.trans (congrArg some (by kernel_rfl))
  f320 := Tryz.func143.trans (congrArg some (by kernel_rfl))
  f337 := Tryz.func185.trans (congrArg some (by kernel_rfl))
  f338 := Tryz.func186.trans (congrArg some (by kernel_rfl))
  t0 := Tryz.underlying0
  a0 := Tryz.isAgg0
  z0 := Tryz.sizeOf0
  v0 := Tryz.zeroValue0
  t2 := Tryz.underlying2
  a2 := Tryz.isAgg2
  z2 := Tryz.sizeOf2
  v2 := Tryz.zeroValue2
  t3 := Tryz.underlying3
  a3 := Tryz.isAgg3
  z3 := Tryz.sizeOf3
  v3 := Tryz.zeroValue3
  t4 := Tryz.underlying4
  a4 := Tryz.isAgg4
  z4 := Tryz.sizeOf4
  v4 := Tryz.zeroValue4
  t5 := Tryz.underlying5
  a5 := Tryz.isAgg5
  z5 := Tryz.sizeOf5
  v5 := Tryz.zeroValue5
  t9 := Tryz.underlying9
  a9 := Tryz.isAgg9
  z9 := Tryz.sizeOf9
  v9 := Tryz.zeroValue9
  t20 := Tryz.underlying20
  a20 := Tryz.isAgg20
  z20 := Tryz.sizeOf20
  v20 := Tryz.zeroValue20
  t37 := Tryz.underlying22
  a37 := Tryz.isAgg22
  z37 := Tryz.sizeOf22
  v37 := Tryz.zeroValue22
  t46 := Tryz.underlying139
  a46 := Tryz.isAgg139
  z46 := Tryz.sizeOf139
  v46 := Tryz.zeroValue139
  t51 := Tryz.underlying105
  a51 := Tryz.isAgg105
  z51 := Tryz.sizeOf105
  v51 := Tryz.zeroValue105
  t53 := Tryz.underlying114
  a53 := Tryz.isAgg114
  z53 := Tryz.sizeOf114
  v53 := Tryz.zeroValue114
  t171 := Tryz.underlying113
  a171 := Tryz.isAgg113
  z171 := Tryz.sizeOf113
  v171 := Tryz.zeroValue113
  t173 := Tryz.underlying117
  a173 := Tryz.isAgg117
  z173 := Tryz.sizeOf117
  v173 := Tryz.zeroValue117
  t212 := Tryz.underlying151
  a212 := Tryz.isAgg151
  z212 := Tryz.sizeOf151
  v212 := Tryz.zeroValue151
  t213 := Tryz.underlying152
  a213 := Tryz.isAgg152
  z213 := Tryz.sizeOf152
  t232 := Tryz.underlying205
  a232 := Tryz.isAgg205
  z232 := Tryz.sizeOf205
  v232 := Tryz.zeroValue205
  t233 := Tryz.underlying206
  a233 := Tryz.isAgg206
  z233 := Tryz.sizeOf206
  v233 := Tryz.zeroValue206
  g17 := by kernel_rfl
  g18 := by kernel_rfl
  g19 := by kernel_rfl
  i0 := by kernel_rfl
  i2 := by kernel_rfl
  i3 := by kernel_rfl
  i4 := by kernel_rfl
  i5 := by kernel_rfl
  i9 := by kernel_rfl
  i20 := by kernel_rfl
  i37 := by kernel_rfl
  i46 := by kernel_rfl
  i51 := by kernel_rfl
  i53 := by kernel_rfl
  i171 := by kernel_rfl
  i173 := by kernel_rfl
  i212 := by kernel_rfl
  i232 := by kernel_rfl
  i233 := by kernel_rfl
  m17 := by kernel_rfl
  m18 := by kernel_rfl
  m19 := by kernel_rfl }
open Go.RowKit Go.Sort Go.Lib in
theorem Tryz.strconv_Itoa (n : Int) (h0 : -9223372036854775808 ≤ n) (h1 : n ≤ 9223372036854775807) (w : World) (htab : Lib.TabIs Tryz.prog w "internal/strconv.uint64pow10" .u64 Lib.pow10Tab) :
    Calls Tryz.prog 18 #[.int .i64 n] w fun e w' => e = .returned (.string ⟨(Lib.itoa n).toArray⟩) ∧ ∃ k os, w' = grow (w.drewN k) os := Any.strconv_Itoa Tryz.laysM171 n h0 h1 w htab
def Tryz.lays146_ren : Go.Shelf.Ren := ⟨fun | 146 => 16 | 221 => 28 | 268 => 47 | 138 => 48 | 143 => 49 | 195 => 74 | 197 => 75 | 218 => 76 | 219 => 77 | 260 => 114 | 217 => 115 | 225 => 116 | 224 => 117 | 267 => 118 | 266 => 156 | 314 => 157 | n => n, fun | 9 => 9 | 31 => 47 | 3 => 3 | 4 => 4 | 0 => 0 | 105 => 100 | 21 => 21 | 5 => 5 | 46 => 139 | 119 => 160 | 139 => 163 | 138 => 162 | 146 => 164 | 51 => 105 | n => n, fun | 1 => 0 | 3 => 2 | 4 => 3 | n => n⟩
theorem Tryz.lays146 : Go.Proofs.Lays.n146 Tryz.prog Tryz.lays146_ren := {
  mixed := by kernel_rfl
  f138 := Tryz.func48.trans (congrArg some (by kernel_rfl))
  f143 := Tryz.func49.trans (congrArg some (by kernel_rfl))
  f146 := Tryz.func16.trans (congrArg some (by kernel_rfl))
  f195 := Tryz.func74.trans (congrArg some (by kernel_rfl))
  f197 := Tryz.func75.trans (congrArg some (by kernel_rfl))
  f217 := Tryz.func115.trans (congrArg some (by kernel_rfl))
  f218 := Tryz.func76.trans (congrArg some (by kernel_rfl))
  f219 := Tryz.func77.trans (congrArg some (by kernel_rfl))
  f221 := Tryz.func28.trans (congrArg some (by kernel_rfl))
  f224 := Tryz.func117.trans (congrArg some (by kernel_rfl))
  f225 := Tryz.func116.trans (congrArg some (by kernel_rfl))
  f260 := Tryz.func114.trans (congrArg some (by kernel_rfl))
  f266 := Tryz.func156.trans (congrArg some (by kernel_rfl))
  f267 := Tryz.func118.trans (congrArg some (by kernel_rfl))
  f268 := Tryz.func47.trans (congrArg some (by kernel_rfl))
  f314 := Tryz.func157.trans (congrArg some (by kernel_rfl))
  t0 := Tryz.underlying0
  a0 := Tryz.isAgg0
  z0 := Tryz.sizeOf0
  v0 := Tryz.zeroValue0
  t3 := Tryz.underlying3
  a3 := Tryz.isAgg3
  z3 := Tryz.sizeOf3
  v3 := Tryz.zeroValue3
  t4 := Tryz.underlying4
  a4 := Tryz.isAgg4
  z4 := Tryz.sizeOf4
  v4 := Tryz.zeroValue4
  t5 := Tryz.underlying5
  a5 := Tryz.isAgg5
  z5 := Tryz.sizeOf5
  v5 := Tryz.zeroValue5
  t9 := Tryz.underlying9
  a9 := Tryz.isAgg9
  z9 := Tryz.sizeOf9
  v9 := Tryz.zeroValue9
  t21 := Tryz.underlying21
  a21 := Tryz.isAgg21
  z21 := Tryz.sizeOf21
  v21 := Tryz.zeroValue21
  t31 := Tryz.underlying47
  a31 := Tryz.isAgg47
  z31 := Tryz.sizeOf47
  v31 := Tryz.zeroValue47
  t46 := Tryz.underlying139
  a46 := Tryz.isAgg139
  z46 := Tryz.sizeOf139
  v46 := Tryz.zeroValue139
  t51 := Tryz.underlying105
  a51 := Tryz.isAgg105
  z51 := Tryz.sizeOf105
  v51 := Tryz.zeroValue105
  t105 := Tryz.underlying100
  a105 := Tryz.isAgg100
  z105 := Tryz.sizeOf100
  v105 := Tryz.zeroValue100
  t119 := Tryz.underlying160
  a119 := Tryz.isAgg160
  z119 := Tryz.sizeOf160
  t138 := Tryz.underlying162
  a138 := Tryz.isAgg162
  z138 := Tryz.sizeOf162
  v138 := Tryz.zeroValue162
  t139 := Tryz.underlying163
  a139 := Tryz.isAgg163
  z139 := Tryz.sizeOf163
  v139 := Tryz.zeroValue163
  t146 := Tryz.underlying164
  a146 := Tryz.isAgg164
  z146 := Tryz.sizeOf164
  v146 := Tryz.zeroValue164
  g1 := by kernel_rfl
  g3 := by kernel_rfl
  g4 := by kernel_rfl }
end Go.Proofs
namespace Go.Proofs.YtbiihblpgfgaoabGreatDoor
open Go Go.Ro
theorem Ty.mixed : Tryz.prog.follows .mixedOrders = true := by kernel_rfl
theorem Ty.o3 : OneC Tryz.prog 3 := ⟨_, Tryz.underlying3, rfl⟩
theorem Ty.s3 : (Tryz.prog.info? 3).map (·.size) = some 1 := by kernel_rfl
theorem Ty.z3 : (Tryz.prog.info? 3).map (fun i => i.size == 0) = some false := by kernel_rfl
theorem Ty.i3 : Inf Tryz.prog 3 (.int .i64 0) 1 8 := by unfold Inf; kernel_rfl
theorem Ty.o5 : OneC Tryz.prog 5 := ⟨_, Tryz.underlying5, rfl⟩
theorem Ty.s5 : (Tryz.prog.info? 5).map (·.size) = some 1 := by kernel_rfl
theorem Ty.i5 : Inf Tryz.prog 5 (.int .u8 0) 1 1 := by unfold Inf; kernel_rfl
theorem Ty.o9 : OneC Tryz.prog 9 := ⟨_, Tryz.underlying9, rfl⟩
theorem Ty.s9 : (Tryz.prog.info? 9).map (·.size) = some 1 := by kernel_rfl
theorem Ty.i9 : Inf Tryz.prog 9 (.string ByteArray.empty) 1 16 := by unfold Inf; kernel_rfl
theorem Ty.o22 : OneC Tryz.prog 22 := ⟨_, Tryz.underlying22, rfl⟩
theorem Ty.z22 : (Tryz.prog.info? 22).map (fun i => i.size == 0) = some false := by kernel_rfl
theorem Ty.i22 : Inf Tryz.prog 22 (.slice none 0 0) 1 24 := by unfold Inf; kernel_rfl
theorem Ty.o31 : OneC Tryz.prog 31 := ⟨_, Tryz.underlying31, rfl⟩
theorem Ty.o32 : OneC Tryz.prog 32 := ⟨_, Tryz.underlying32, rfl⟩
theorem Ty.z32 : (Tryz.prog.info? 32).map (fun i => i.size == 0) = some false := by kernel_rfl
theorem Ty.i32 : Inf Tryz.prog 32 (.slice none 0 0) 1 24 := by unfold Inf; kernel_rfl
theorem Ty.o33 : OneC Tryz.prog 33 := ⟨_, Tryz.underlying33, rfl⟩
theorem Ty.z33 : (Tryz.prog.info? 33).map (fun i => i.size == 0) = some false := by kernel_rfl
theorem Ty.i33 : Inf Tryz.prog 33 (.slice none 0 0) 1 24 := by unfold Inf; kernel_rfl
theorem Ty.o34 : OneC Tryz.prog 34 := ⟨_, Tryz.underlying34, rfl⟩
theorem Ty.z34 : (Tryz.prog.info? 34).map (fun i => i.size == 0) = some false := by kernel_rfl
theorem Ty.i34 : Inf Tryz.prog 34 (.slice none 0 0) 1 24 := by unfold Inf; kernel_rfl
theorem Ty.o35 : OneC Tryz.prog 35 := ⟨_, Tryz.underlying35, rfl⟩
theorem Ty.z35 : (Tryz.prog.info? 35).map (fun i => i.size == 0) = some false := by kernel_rfl
theorem Ty.i35 : Inf Tryz.prog 35 (.slice none 0 0) 1 24 := by unfold Inf; kernel_rfl
theorem Ty.z36 : (Tryz.prog.info? 36).map (fun i => i.size == 0) = some false := by kernel_rfl
theorem Ty.i36 : Inf Tryz.prog 36 (.agg #[(.int .i64 0), (.slice none 0 0)]) 2 32 := by unfold Inf; kernel_rfl
theorem Ty.a37 : AggC Tryz.prog 37 := ⟨_, Tryz.underlying37, rfl⟩
theorem Ty.s37 : (Tryz.prog.info? 37).map (·.size) = some 2 := by kernel_rfl
theorem Ty.p37 : plc Tryz.prog 37 = some [(0, 1), (1, 1)] := by kernel_rfl
theorem Ty.z37 : (Tryz.prog.info? 37).map (fun i => i.size == 0) = some false := by kernel_rfl
theorem Ty.i37 : Inf Tryz.prog 37 (.agg #[(.int .i64 0), (.slice none 0 0)]) 2 32 := by unfold Inf; kernel_rfl
theorem Ty.a38 : AggC Tryz.prog 38 := ⟨_, Tryz.underlying38, rfl⟩
theorem Ty.s38 : (Tryz.prog.info? 38).map (·.size) = some 7 := by kernel_rfl
theorem Ty.p38 : plc Tryz.prog 38 = some [(0, 1), (1, 1), (2, 1), (3, 1), (4, 2), (6, 1)] := by kernel_rfl
theorem Ty.z38 : (Tryz.prog.info? 38).map (fun i => i.size == 0) = some false := by kernel_rfl
theorem Ty.i38 : Inf Tryz.prog 38 (.agg #[(.int .i64 0), (.slice none 0 0), (.slice none 0 0), (.slice none 0 0), (.int .i64 0), (.slice none 0 0), (.slice none 0 0)]) 7 136 := by unfold Inf; kernel_rfl
theorem Ty.a39 : AggC Tryz.prog 39 := ⟨_, Tryz.underlying39, rfl⟩
theorem Ty.s39 : (Tryz.prog.info? 39).map (·.size) = some 7 := by kernel_rfl
theorem Ty.p39 : plc Tryz.prog 39 = some [(0, 1), (1, 1), (2, 1), (3, 1), (4, 2), (6, 1)] := by kernel_rfl
theorem Ty.z39 : (Tryz.prog.info? 39).map (fun i => i.size == 0) = some false := by kernel_rfl
theorem Ty.i39 : Inf Tryz.prog 39 (.agg #[(.int .i64 0), (.slice none 0 0), (.slice none 0 0), (.slice none 0 0), (.int .i64 0), (.slice none 0 0), (.slice none 0 0)]) 7 136 := by unfold Inf; kernel_rfl
theorem Ty.o40 : OneC Tryz.prog 40 := ⟨_, Tryz.underlying40, rfl⟩
theorem Ty.s40 : (Tryz.prog.info? 40).map (·.size) = some 1 := by kernel_rfl
theorem Ty.z40 : (Tryz.prog.info? 40).map (fun i => i.size == 0) = some false := by kernel_rfl
theorem Ty.i40 : Inf Tryz.prog 40 (.pointer none) 1 8 := by unfold Inf; kernel_rfl
theorem Ty.z41 : (Tryz.prog.info? 41).map (fun i => i.size == 0) = some false := by kernel_rfl
theorem Ty.i41 : Inf Tryz.prog 41 (.agg #[(.pointer none), (.slice none 0 0)]) 2 32 := by unfold Inf; kernel_rfl
theorem Ty.z42 : (Tryz.prog.info? 42).map (fun i => i.size == 0) = some false := by kernel_rfl
theorem Ty.z43 : (Tryz.prog.info? 43).map (fun i => i.size == 0) = some false := by kernel_rfl
theorem Ty.p44 : plc Tryz.prog 44 = some [(0, 7), (7, 2)] := by kernel_rfl
theorem Ty.i44 : Inf Tryz.prog 44 (.agg #[(.int .i64 0), (.slice none 0 0), (.slice none 0 0), (.slice none 0 0), (.int .i64 0), (.slice none 0 0), (.slice none 0 0), (.pointer none), (.slice none 0 0)]) 9 168 := by unfold Inf; kernel_rfl
theorem Ty.a51 : AggC Tryz.prog 51 := ⟨_, Tryz.underlying51, rfl⟩
theorem Ty.s51 : (Tryz.prog.info? 51).map (·.size) = some 2 := by kernel_rfl
theorem Ty.p51 : plc Tryz.prog 51 = some [(0, 1), (1, 1)] := by kernel_rfl
theorem Ty.i51 : Inf Tryz.prog 51 (.agg #[(.int .i64 0), (.int .i64 0)]) 2 16 := by unfold Inf; kernel_rfl
theorem Ty.p60 : plc Tryz.prog 60 = some [(0, 1), (1, 1)] := by kernel_rfl
theorem Ty.i60 : Inf Tryz.prog 60 (.agg #[(.slice none 0 0), (.int .i64 0)]) 2 32 := by unfold Inf; kernel_rfl
theorem Ty.o68 : OneC Tryz.prog 68 := ⟨_, Tryz.underlying68, rfl⟩
theorem Ty.a78 : AggC Tryz.prog 78 := ⟨_, Tryz.underlying78, rfl⟩
theorem Ty.s78 : (Tryz.prog.info? 78).map (·.size) = some 4 := by kernel_rfl
theorem Ty.p78 : plc Tryz.prog 78 = some [(0, 1), (1, 1), (2, 1), (3, 1)] := by kernel_rfl
theorem Ty.i78 : Inf Tryz.prog 78 (.agg #[(.int .i64 0), (.int .i64 0), (.int .i64 0), (.int .i64 0)]) 4 32 := by unfold Inf; kernel_rfl
theorem Ty.a84 : AggC Tryz.prog 84 := ⟨_, Tryz.underlying84, rfl⟩
theorem Ty.s84 : (Tryz.prog.info? 84).map (·.size) = some 3 := by kernel_rfl
theorem Ty.p84 : plc Tryz.prog 84 = some [(0, 1), (1, 1), (2, 1)] := by kernel_rfl
theorem Ty.i84 : Inf Tryz.prog 84 (.agg #[(.int .i64 0), (.int .i64 0), (.slice none 0 0)]) 3 40 := by unfold Inf; kernel_rfl
theorem Ty.a85 : AggC Tryz.prog 85 := ⟨_, Tryz.underlying85, rfl⟩
theorem Ty.s85 : (Tryz.prog.info? 85).map (·.size) = some 3 := by kernel_rfl
theorem Ty.p85 : plc Tryz.prog 85 = some [(0, 1), (1, 1), (2, 1)] := by kernel_rfl
theorem Ty.i85 : Inf Tryz.prog 85 (.agg #[(.int .i64 0), (.int .i64 0), (.int .i64 0)]) 3 24 := by unfold Inf; kernel_rfl
theorem Ty.a86 : AggC Tryz.prog 86 := ⟨_, Tryz.underlying86, rfl⟩
theorem Ty.s86 : (Tryz.prog.info? 86).map (·.size) = some 3 := by kernel_rfl
theorem Ty.p86 : plc Tryz.prog 86 = some [(0, 1), (1, 1), (2, 1)] := by kernel_rfl
theorem Ty.i86 : Inf Tryz.prog 86 (.agg #[(.int .i64 0), (.int .i64 0), (.int .i64 0)]) 3 24 := by unfold Inf; kernel_rfl
theorem Ty.p90 : plc Tryz.prog 90 = some [] := by kernel_rfl
theorem Ty.i90 : Inf Tryz.prog 90 (.agg #[]) 0 0 := by unfold Inf; kernel_rfl
theorem Ty.z109 : (Tryz.prog.info? 109).map (fun i => i.size == 0) = some false := by kernel_rfl
theorem Ty.z110 : (Tryz.prog.info? 110).map (fun i => i.size == 0) = some false := by kernel_rfl
theorem Ty.p111 : plc Tryz.prog 111 = some [(0, 2), (2, 7)] := by kernel_rfl
theorem Ty.i111 : Inf Tryz.prog 111 (.agg #[(.int .i32 0), (.int .u32 0), (.int .i64 0), (.slice none 0 0), (.slice none 0 0), (.slice none 0 0), (.int .i64 0), (.slice none 0 0), (.slice none 0 0)]) 9 144 := by unfold Inf; kernel_rfl
theorem Ty.o200 : OneC Tryz.prog 200 := ⟨_, Tryz.underlying200, rfl⟩
theorem Ty.z200 : (Tryz.prog.info? 200).map (fun i => i.size == 0) = some false := by kernel_rfl
theorem Ty.z201 : (Tryz.prog.info? 201).map (fun i => i.size == 0) = some false := by kernel_rfl
theorem Ty.p202 : plc Tryz.prog 202 = some [(0, 1), (1, 1)] := by kernel_rfl
theorem Ty.i202 : Inf Tryz.prog 202 (.agg #[(.int .i64 0), (.pointer none)]) 2 16 := by unfold Inf; kernel_rfl
theorem Ty.p225 : plc Tryz.prog 225 = some [(0, 1)] := by kernel_rfl
theorem Ty.i225 : Inf Tryz.prog 225 (.agg #[(.slice none 0 0)]) 1 24 := by unfold Inf; kernel_rfl
open Go Go.Ro Tryz
section
variable {w : World} {C : World → Prop}
theorem l6In_c (hK : C w) {n lo hi : Int} : Ret prog 60 #[.int .i64 n, .int .i64 lo, .int .i64 hi] w (fun r w' => r = .bool (decide (lo ≤ n ∧ n ≤ hi)) ∧ C w') := by
 refine enter1 (args := [.int .i64 n, .int .i64 lo, .int .i64 hi]) func60 rfl rfl rfl rfl ?_
 refine sq <| rg <| ?_
 refine vl (aB rfl) <| nl <| thn <| sq <| rg <| vl (mI rfl) <| vl (mI rfl) <| vl (ge rfl rfl) <| vl (mB rfl) <| ?_
 refine splP (t := 10) rfl (fun h => ?_) fun h => ?_
 ·refine gy rfl <| vl (mI rfl) <| gy rfl <| vl (mI rfl) <| gy rfl <| vl (le rfl rfl) <| vl (pk rfl) <| vl (aB rfl) <| nl <| thn <| rt <| p1r (a := .bool _) rfl <| ?_
  exact ⟨by simp [h], hK⟩
 ·refine gn rfl <| gn rfl <| gn rfl <| vl (pk rfl) <| vl (aB rfl) <| nl <| thn <| rt <| p1r (a := .bool _) rfl <| ?_
  exact ⟨by simp [h], hK⟩
theorem inRange_c (hK : C w) {n lo hi : Int} : Ret prog 72 #[.int .i64 n, .int .i64 lo, .int .i64 hi] w (fun r w' => r = .bool (decide (lo ≤ n ∧ n ≤ hi)) ∧ C w') := by
 refine enter1 (args := [.int .i64 n, .int .i64 lo, .int .i64 hi]) func72 rfl rfl rfl rfl ?_
 refine sq <| rg <| ?_
 refine vl (aB rfl) <| nl <| thn <| sq <| rg <| vl (mI rfl) <| vl (mI rfl) <| vl (le rfl rfl) <| vl (mB rfl) <| ?_
 refine splP (t := 10) rfl (fun h => ?_) fun h => ?_
 ·refine gy rfl <| vl (mI rfl) <| gy rfl <| vl (mI rfl) <| gy rfl <| vl (le rfl rfl) <| vl (pk rfl) <| vl (aB rfl) <| nl <| thn <| rt <| p1r (a := .bool _) rfl <| ?_
  exact ⟨by simp [h], hK⟩
 ·refine gn rfl <| gn rfl <| gn rfl <| vl (pk rfl) <| vl (aB rfl) <| nl <| thn <| rt <| p1r (a := .bool _) rfl <| ?_
  exact ⟨by simp [h], hK⟩
theorem l1Point_c (hK : C w) {n : Int} : Ret prog 70 #[.int .i64 n] w (fun r w' => r = .bool (decide (0 ≤ n ∧ n ≤ 63)) ∧ C w') := by
 refine enter1 (args := [.int .i64 n]) func70 rfl rfl rfl rfl ?_
 refine sq <| rg <| ?_
 refine vl (aB rfl) <| nl <| thn <| sq <| rg <| vl (mI rfl) <| ?_
 refine cl call60 rfl (l6In_c (C := C) hK) ?_
 rintro _ w ⟨rfl, hK⟩
 refine vl (aB rfl) <| nl <| thn <| rt <| p1r (a := .bool _) rfl <| ?_
 exact ⟨rfl, hK⟩
theorem posok_c (hK : C w) {n : Int} : Ret prog 113 #[.int .i64 n] w (fun r w' => r = .bool (decide (0 ≤ n ∧ n ≤ 63)) ∧ C w') := by
 refine enter1 (args := [.int .i64 n]) func113 rfl rfl rfl rfl ?_
 refine sq <| rg <| ?_
 refine vl (aB rfl) <| nl <| thn <| sq <| rg <| vl (mI rfl) <| vl (ge rfl rfl) <| vl (mB rfl) <| ?_
 refine splP (t := 5) rfl (fun h => ?_) fun h => ?_
 ·refine gy rfl <| vl (mI rfl) <| gy rfl <| vl (lt rfl rfl) <| vl (pk rfl) <| vl (aB rfl) <| nl <| thn <| rt <| p1r (a := .bool _) rfl <| ?_
  exact ⟨by simp [h]; omega, hK⟩
 ·refine gn rfl <| gn rfl <| vl (pk rfl) <| vl (aB rfl) <| nl <| thn <| rt <| p1r (a := .bool _) rfl <| ?_
  exact ⟨by simp [h], hK⟩
end
open Go Go.Ro Tryz
section
variable {e w : World} {G : View} {L : Own} {C : World → Prop}
end
open Go Go.Ro Tryz
section
variable {e w : World} {G : View} {L : Own} {C : World → Prop}
theorem pick_c {rb : Nat} {cva : Value} {code : List Int} {p n : Int} (hK : K e w G ((rb, row [cva, .int .i64 p] 60) :: L)) (hc : BytS G cva code) (hl : code.length ≤ 2000) (h0 : 0 ≤ p) (h1 : p ≤ 1000000000) :
  Ret prog 12 #[.pointer (some ⟨rb, 0, none⟩), .int .i64 n] w (fun r w' => (∃ k, r = .int .i64 k ∧ 0 ≤ k ∧ (1 ≤ n → k < n) ∧ (n < 1 → k = 0)) ∧ K e w' G ((rb, row [cva, .int .i64 (p + 1)] 60) :: L)) := by
 refine enter1 (args := [.pointer (some ⟨rb, 0, none⟩), .int .i64 n]) func12 rfl rfl rfl rfl ?_
 refine sq <| rg <| ?_
 refine vl (aI rfl) <| nl <| thn <| sq <| rg <| vl mv <| vl mv <| vl (nc rfl) <| vl (fa underlying60 rfl Ty.z3 rfl) <| vl (ldO hK Ty.o3 0 rfl rfl rfl) <| vl (ad rfl rfl) <| vl (nc rfl) <| vl (fa underlying60 rfl Ty.z3 rfl) <| ?_
 refine so hK Ty.i3 rfl 0 rfl rfl rfl rfl rfl ?_
 intro w hK
 refine nl <| thn <| sq <| sq <| rg <| vl (mI rfl) <| vl (lt rfl rfl) <| vl (mB rfl) <| ?_
 replace hK : K e w G ((rb, row [cva, .int .i64 (p + 1)] 60) :: L) := hK
 refine splP (t := 17) rfl (fun hn => ?_) fun hn => ?_
 ·refine gn rfl <| gn rfl <| gn rfl <| gn rfl <| gn rfl <| gn rfl <| vl (pk rfl) <| nl <| thn <| ?_
  refine cdt rfl ?_
  refine sq <| rg <| ?_
  refine vl (aI rfl) <| nl <| thn <| rt <| thr <| p1r (a := .int _ _) rfl <| ?_
  exact ⟨⟨_, rfl, by omega, by omega, fun _ => rfl⟩, hK⟩
 ·refine gy rfl <| vl mv <| gy rfl <| vl (nc rfl) <| gy rfl <| vl (fa underlying60 rfl Ty.z22 rfl) <| gy rfl <| vl (ldO hK Ty.o22 0 rfl rfl rfl) <| gy rfl <| vl (ln underlying22 rfl hc.len) <| gy rfl <| vl (eq rfl rfl) <| vl (pk rfl) <| nl <| thn <| ?_
  refine cdP rfl (fun he => ?_) fun he => ?_
  ·refine sq <| rg <| ?_
   refine vl (aI rfl) <| nl <| thn <| rt <| thr <| p1r (a := .int _ _) rfl <| ?_
   exact ⟨⟨_, rfl, by omega, by omega, fun _ => rfl⟩, hK⟩
  ·have hpos : 0 < code.length := by omega
   refine sk <| thn <| sq <| rg <| ?_
   refine vl mv <| vl (nc rfl) <| vl (fa underlying60 rfl Ty.z3 rfl) <| vl (ldO hK Ty.o3 0 rfl rfl rfl) <| vl (sb rfl rfl) <| vl (aI rfl) <| nl <| thn <| sq <| sq <| rg <| vl (mI rfl) <| vl mv <| vl (nc rfl) <| vl (fa underlying60 rfl Ty.z22 rfl) <| vl (ldO hK Ty.o22 0 rfl rfl rfl) <| vl (ln underlying22 rfl hc.len) <| vl (lt rfl rfl) <| nl <| thn <| ?_
   refine cdP rfl (fun hlt => ?_) fun hlt => ?_
   ·skip
    have hb := hc.bd (p + 1 - 1).toNat
    refine sq <| rg <| ?_
    refine vl mv <| vl (nc rfl) <| vl (fa underlying60 rfl Ty.z22 rfl) <| vl (ldO hK Ty.o22 0 rfl rfl rfl) <| vl (mI rfl) <| vl (ix1 underlying22 Ty.s5 rfl hc.1 rfl (by first | omega | (simp only; omega)) (by first | omega | (simp only; omega))) <| vl (ldV hK Ty.o5 rfl (hc.atI (by first | omega | (simp only; omega)) (by first | omega | (simp only; omega)))) <| vl (cv underlying5 underlying3 rfl (by first | omega | (simp only; omega)) (by first | omega | (simp only; omega))) <| vl (mI rfl) <| vl (rm rfl rfl) <| vl (aI rfl) <| nl <| thn <| rt <| thr <| p1r (a := .int _ _) rfl <| ?_
    have hm := Int.emod_lt_of_pos (code.getD (p + 1 - 1).toNat 0) (show 0 < n by omega)
    have hm' := Int.emod_nonneg (code.getD (p + 1 - 1).toNat 0) (show n ≠ 0 by omega)
    exact ⟨⟨_, rfl, hm', fun _ => hm, fun h => by omega⟩, hK⟩
   ·skip
    refine sk <| thn <| sq <| ?_
    have m1 := Int.emod_lt_of_pos (p + 1 - 1) (show (0 : Int) < code.length by omega)
    have m1' := Int.emod_nonneg (p + 1 - 1) (show (code.length : Int) ≠ 0 by omega)
    have m2 := Int.emod_lt_of_pos ((p + 1 - 1) * 7 + 3) (show (0 : Int) < code.length by omega)
    have m2' := Int.emod_nonneg ((p + 1 - 1) * 7 + 3) (show (code.length : Int) ≠ 0 by omega)
    have b1 := hc.bd ((p + 1 - 1) % code.length).toNat
    have b2 := hc.bd (((p + 1 - 1) * 7 + 3) % code.length).toNat
    have d1 : 0 ≤ (p + 1 - 1) / (code.length : Int) := Int.ediv_nonneg (by omega) (by omega)
    have d2 : (p + 1 - 1) / (code.length : Int) ≤ p + 1 - 1 := Int.ediv_le_self _ (by omega)
    refine rgq (fun w => K _ w _ _) Ty.mixed (by kernel_rfl) (hK.drawn _) ?_
    refine qv (fun w hK => mv) <| qv (fun w hK => (nc rfl)) <| qv (fun w hK => (fa underlying60 rfl Ty.z22 rfl)) <| qldO Ty.o22 0 rfl rfl rfl <| qv (fun w hK => (mI rfl)) <| qv (fun w hK => mv) <| qv (fun w hK => (nc rfl)) <| qv (fun w hK => (fa underlying60 rfl Ty.z22 rfl)) <| qldO Ty.o22 0 rfl rfl rfl <| qv (fun w hK => (ln underlying22 rfl hc.len)) <| qv (fun w hK => (rm rfl rfl)) <| qv (fun w hK => (ix1 underlying22 Ty.s5 rfl hc.1 rfl (by first | omega | (simp only; omega)) (by first | omega | (simp only; omega)))) <| qldV Ty.o5 rfl (hc.atI (by first | omega | (simp only; omega)) (by first | omega | (simp only; omega))) <| qv (fun w hK => (cv underlying5 underlying3 rfl (by first | omega | (simp only; omega)) (by first | omega | (simp only; omega)))) <| qv (fun w hK => (ml rfl rfl)) <| qv (fun w hK => mv) <| qv (fun w hK => (nc rfl)) <| qv (fun w hK => (fa underlying60 rfl Ty.z22 rfl)) <| qldO Ty.o22 0 rfl rfl rfl <| qv (fun w hK => (mI rfl)) <| qv (fun w hK => (ml rfl rfl)) <| qv (fun w hK => (ad rfl rfl)) <| qv (fun w hK => mv) <| qv (fun w hK => (nc rfl)) <| qv (fun w hK => (fa underlying60 rfl Ty.z22 rfl)) <| qldO Ty.o22 0 rfl rfl rfl <| qv (fun w hK => (ln underlying22 rfl hc.len)) <| qv (fun w hK => (rm rfl rfl)) <| qv (fun w hK => (ix1 underlying22 Ty.s5 rfl hc.1 rfl (by first | omega | (simp only; omega)) (by first | omega | (simp only; omega)))) <| qldV Ty.o5 rfl (hc.atI (by first | omega | (simp only; omega)) (by first | omega | (simp only; omega))) <| qv (fun w hK => (cv underlying5 underlying3 rfl (by first | omega | (simp only; omega)) (by first | omega | (simp only; omega)))) <| qv (fun w hK => (ml rfl rfl)) <| qv (fun w hK => (ad rfl rfl)) <| qv (fun w hK => (mI rfl)) <| qv (fun w hK => (ml rfl rfl)) <| qv (fun w hK => (ad rfl rfl)) <| qv (fun w hK => (mI rfl)) <| qv (fun w hK => mv) <| qv (fun w hK => (nc rfl)) <| qv (fun w hK => (fa underlying60 rfl Ty.z22 rfl)) <| qldO Ty.o22 0 rfl rfl rfl <| qv (fun w hK => (ln underlying22 rfl hc.len)) <| qv (fun w hK => (qu rfl rfl (by first | omega | (simp only; omega)) (by first | omega | (simp only; omega)) (by first | omega | (simp only; omega)))) <| qv (fun w hK => (ml rfl rfl)) <| qv (fun w hK => (ad rfl rfl)) <| qv (fun w hK => (aI rfl)) <| qn <| ?_
    intro w hK
    refine thn <| sq <| rg <| vl (mI rfl) <| vl (mI rfl) <| vl (qu rfl rfl (by first | omega | (simp only; omega)) (by first | omega | (simp only; omega)) (by first | omega | (simp only; omega))) <| ?_
    generalize hx : code.getD ((p + 1 - 1) % code.length).toNat 0 * 131 + code.getD (((p + 1 - 1) * 7 + 3) % code.length).toNat 0 * 1117 + (p + 1 - 1) * 29 + (p + 1 - 1) / code.length * 53 = x
    have x0 : 0 ≤ x := by omega
    have x1 : x < 4611686018427387904 := by omega
    have hz := xorI_bd x0 x1 (show 0 ≤ x / 64 by omega) (by omega)
    refine vl (xr rfl rfl (by first | omega | (simp only; omega)) (by first | omega | (simp only; omega)) (by first | omega | (simp only; omega)) (by first | omega | (simp only; omega))) <| vl (aI rfl) <| nl <| thn <| sq <| rg <| vl (mI rfl) <| vl (mI rfl) <| vl (rm rfl rfl) <| vl (aI rfl) <| nl <| thn <| rt <| p1r (a := .int _ _) rfl <| ?_
    have q1 := Int.emod_lt_of_pos (xorI x (x / 64)) (show 0 < n by omega)
    have q2 := Int.emod_nonneg (xorI x (x / 64)) (show n ≠ 0 by omega)
    exact ⟨⟨_, rfl, q2, fun _ => q1, fun h => by omega⟩, hK⟩
theorem pickN_c {rb : Nat} {cva : Value} {code : List Int} {p n : Int} (hK : K e w G ((rb, row [cva, .int .i64 p] 60) :: L)) (hc : BytS G cva code) (hl : code.length ≤ 2000) (h0 : 0 ≤ p) (h1 : p ≤ 1000000000) (hn : 1 ≤ n) :
  Ret prog 12 #[.pointer (some ⟨rb, 0, none⟩), .int .i64 n] w (fun r w' => (∃ k, r = .int .i64 k ∧ 0 ≤ k ∧ k < n) ∧ K e w' G ((rb, row [cva, .int .i64 (p + 1)] 60) :: L)) :=
 (pick_c hK hc hl h0 h1).mono fun _ _ ⟨⟨k, h1, h2, h3, _⟩, h5⟩ => ⟨⟨k, h1, h2, h3 hn⟩, h5⟩
theorem l6Open_c {cva : Value} {code : List Int} (hK : K e w G L) (hc : BytS G cva code) :
  Ret prog 11 #[cva] w (fun r w' => ∃ rb cvb cod, r = .pointer (some ⟨rb, 0, none⟩) ∧ BytS G cvb cod ∧ cod.length ≤ 2000 ∧ K e w' G ((rb, row [cvb, .int .i64 0] 60) :: L)) := by
 have hle := hc.le
 refine enter1 (args := [cva]) func11 rfl rfl rfl rfl ?_
 refine sq <| rg <| ?_
 refine vl asg <| nl <| thn <| sq <| sq <| rg <| vl mv <| vl (ln underlying22 rfl hc.len) <| vl (gt rfl rfl) <| nl <| thn <| ?_
 refine cdP rfl (fun h => ?_) fun h => ?_
 ·skip
  have hcb : BytS G (slc cva 0 2000 1) ((code.take 2000).drop 0) := SlR.slc hc (by omega) (by omega)
  refine rg <| ?_
  refine vl mv <| vl (slHi (h := 2000) underlying22 Ty.s5 rfl hc.1 rfl (by first | omega | (simp only; omega))) <| vl asg <| nl <| thn <| sq <| rg <| vl mv <| vl (bd [(0, _)] Ty.p60 Ty.i60 rfl ⟨⟨rfl, one_cells hcb.1.one⟩, trivial⟩ rfl) <| ?_
  refine bx hK rfl rfl ?_
  intro b10 w hK
  refine vl asg <| nl <| thn <| rt <| p1r (a := _) rfl <| ?_
  exact ⟨_, _, _, rfl, hcb, by simp; omega, hK⟩
 ·skip
  refine sk <| thn <| sq <| rg <| ?_
  refine vl mv <| vl (bd [(0, _)] Ty.p60 Ty.i60 rfl ⟨⟨rfl, one_cells hc.1.one⟩, trivial⟩ rfl) <| ?_
  refine bx hK rfl rfl ?_
  intro b10 w hK
  refine vl asg <| nl <| thn <| rt <| p1r (a := _) rfl <| ?_
  exact ⟨_, _, _, rfl, hc, by omega, hK⟩
variable {rb : Nat} {cva : Value} {code : List Int} {p : Int}
end
open Go Go.Ro Tryz
section
variable {e w : World} {G : View} {L : Own} {v u : Value} {xs ys : List Int}
theorem l1Has_c (hK : K e w G L) (hv : IntS G v xs) {n : Int} :
  Ret prog 108 #[v, .int .i64 n] w (fun r w' => r = .bool (decide (n ∈ xs)) ∧ K e w' G L) := by
 have hle := hv.le
 refine enter1 (args := [v, .int .i64 n]) func108 rfl rfl rfl rfl ?_
 refine sq <| rg <| ?_
 refine vl (aB rfl) <| nl <| thn <| sq <| sq <| rg <| vl (aI rfl) <| nl <| thn <| bk <| ?_
 refine lp (σ := Nat) (fun i => [(0, v), (1, .int .i64 n), (5, .int .i64 (i : Int))]) (fun i w => i ≤ xs.length ∧ n ∉ xs.take i ∧ K e w G L) (fun i => xs.length - i) 0 ⟨rfl, rfl, rfl, trivial⟩ ⟨Nat.zero_le _, by simp, hK⟩ ?_
 rintro i g w ⟨hi, hn, hK⟩
 refine sq <| sq <| rg <| ?_
 refine vl (mI rfl) <| vl mv <| vl (ln underlying35 rfl hv.len) <| vl (lt rfl rfl) <| nl <| thn <| ?_
 refine cdP rfl (fun hc => ?_) fun hc => ?_
 ·refine sk <| thn <| sq <| bk <| sq <| rg <| ?_
  refine vl mv <| vl (mI rfl) <| vl (ixn1 underlying35 Ty.s3 rfl hv.1 rfl (by first | omega | (simp only; omega))) <| vl (ldV hK Ty.o3 rfl (hv.at (by first | omega | (simp only; omega)))) <| vl (mI rfl) <| vl (eq rfl rfl) <| nl <| thn <| ?_
  refine cdP rfl (fun hx => ?_) fun hx => ?_
  ·refine sq <| rg <| ?_
   refine vl (aB rfl) <| nl <| thn <| rt <| bkr <| thr <| thr <| bkr <| thr <| p1r (a := .bool _) rfl <| ?_
   exact ⟨by rw [decide_eq_true]; rw [← hx]; exact List.getElem_mem _, hK⟩
  ·refine sk <| bkn <| thn <| rg <| ?_
   refine vl (mI rfl) <| vl (ad rfl rfl) <| vl (aI rfl) <| nl <| thn <| ?_
   exact ⟨i + 1, ⟨rfl, rfl, rfl, trivial⟩, ⟨by omega, by rw [List.take_succ_eq_append_getElem (by omega)]; grind, hK⟩, by omega⟩
 ·refine ex <| the <| the <| bkh <| thn <| sq <| rg <| ?_
  refine vl (aB rfl) <| nl <| thn <| rt <| p1r (a := .bool _) rfl <| ?_
  have : i = xs.length := by omega
  subst this
  exact ⟨by rw [decide_eq_false]; simpa using hn, hK⟩
end
end Go.Proofs.YtbiihblpgfgaoabGreatDoor