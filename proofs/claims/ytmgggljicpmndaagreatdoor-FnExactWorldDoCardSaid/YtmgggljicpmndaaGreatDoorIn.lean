/- Functions that defer one call. Closed facts on the types of the program. Contracts of the small functions on numbers. Contracts of the functions that copy, compare and mark slices of numbers. Conditions: those that each row states. -/
import Derived.Test.YtmgggljicpmndaaGreatDoorWm2
import Derived.Defers
import Derived.Test.YtmgggljicpmndaaGreatDoorFin
import Derived.Test.YtmgggljicpmndaaGreatDoorProg
import Derived.Test.YtmgggljicpmndaaGreatDoorMp
namespace Go.Ro
open Go
def addD (D : List Deferred) (a : Act) : Act := { a with defers := a.defers ++ D }
section
variable {P : Program} {n : Nat} {Q : Exit → Act → World → Prop} {f : Sl} {w : World} {ops : Array Oper} {D : List Deferred}
theorem put_addD {a : Act} {d : Option Tmp} {v : Value} : (addD D a).put d v = addD D (a.put d v) := by cases d <;> rfl
theorem putd_addD {a : Act} {d : Option Tmp} {v : Value} {x : Deferred} : Act.put { addD D a with defers := x :: (addD D a).defers } d v = addD D (Act.put { a with defers := x :: a.defers } d v) := by cases d <;> rfl
theorem owp_addD {o : Oper} {a : Act} {w : World} {next : Act → World → Prop} (hh : o.wp P a w (fun a' w' => next (addD D a') w') (fun e a' w' => Q e (addD D a') w')) : o.wp P (addD D a) w next Q := by
  unfold Oper.wp at *
  have he : execOp (addD D a).eval o = execOp a.eval o := rfl
  rw [he]
  generalize (execOp a.eval o).run P w = r at *
  cases r with
  | ok n w' =>
    cases n <;> simp only [Oper.upon, put_addD, putd_addD] at hh ⊢ <;>
      first
        | exact hh
        | exact Calls.mono hh (fun e w'' he => by cases e <;> first | exact he | exact (let ⟨a, w, x⟩ := he; ⟨addD D a, w, x⟩))
        | exact Rows.mono hh (fun _ _ he => he)
  | halt x w' => cases x <;> simp only [Oper.upon] at hh ⊢ <;> exact hh
theorem any_addD {S : World → Prop} (hno : ¬ LetsOut fun e a' w' => Q e (addD D a') w') : ∀ (k : Nat) (l : Array Bool) (a : Act) (w : World), wpAnyH P .any ops (fun e a' w' => Q e (addD D a') w') S k l a w → wpAnyH P .any ops Q S k l (addD D a) w
  | 0, _, _, _, h => h
  | k + 1, l, a, w, h => ⟨h.1, fun i hi => by
    have := h.2 i hi
    unfold wpOp at this ⊢
    cases ho : ops[i]? with
    | none => simp only [ho] at this ⊢; exact ⟨this.1, any_addD hno k _ _ _ this.2⟩
    | some o =>
      simp only [ho] at this ⊢
      have hy : (yielded ops (addD D a).tmps) = yielded ops a.tmps := rfl
      rw [hy, put_addD]
      split
      · rename_i hw
        rw [if_pos hw] at this
        rcases this with h1 | h1
        · exact .inl (owp_addD (owp_mono (fun a' w' hk => ⟨hk.1, any_addD hno k _ _ _ hk.2⟩) (fun _ _ _ _ h => h) h1))
        · exact absurd h1.2 hno
      · rename_i hw
        rw [if_neg hw] at this
        exact ⟨this.1, any_addD hno k _ _ _ this.2⟩⟩
theorem rgxD {id k : Nat} {ol : List Oper} {Q3 : Po} (S : World → Prop) (l : List Bool) (hm : P.follows .mixedOrders = true) (hl : Array.replicate ol.toArray.size false = l.toArray) (hk : ol.toArray.size = k) {C : World → Prop} (hC : C { w with drawn := w.drawn + 1 })
    (h : ∀ w, C w → WX P n ol.toArray S Q3 k l f w) (hp : ∀ g w, Q3 .normal g w → Q .normal (addD D (mkA n g)) w) : (Code.region id ol.toArray true).wp P Q (addD D (mkA n f)) w := by
  have h1 : (Code.region id ol.toArray true).wp P (fun e a w => ∃ b, a = addD D b ∧ Nq n Q3 e b w) (addD D (mkA n f)) w := by
    refine wp_region_held (S := S) hm ?_
    rw [hl, hk]
    have hm' : ∀ (k : Nat) (l : Array Bool) (a : Act) (w : World), wpAnyH P .any ol.toArray (Nq n Q3) S k l a w → wpAnyH P .any ol.toArray (fun e a' w' => ∃ b, addD D a' = addD D b ∧ Nq n Q3 e b w') S k l a w := by
      intro k
      induction k with
      | zero => intro l a w h; exact ⟨h.1, a, rfl, h.2⟩
      | succ k ih => intro l a w h; exact ⟨fun hr => ⟨a, rfl, h.1 hr⟩, fun i hi => by
          have := h.2 i hi
          unfold wpOp at this ⊢
          cases ho : ol.toArray[i]? with
          | none => simp only [ho] at this ⊢; exact ⟨this.1, ih _ _ _ this.2⟩
          | some o =>
            simp only [ho] at this ⊢
            split
            · rename_i hw
              rw [if_pos hw] at this
              rcases this with h1 | h1
              · exact .inl (owp_mono (fun a' w' hk => ⟨hk.1, ih _ _ _ hk.2⟩) (fun e a w _ h => ⟨a, rfl, h⟩) h1)
              · obtain ⟨_, _, _, h, _⟩ := h1; cases h
            · rename_i hw
              rw [if_neg hw] at this
              exact ⟨this.1, ih _ _ _ this.2⟩⟩
    refine any_addD ?_ _ _ _ _ (hm' _ _ _ _ (h _ hC))
    rintro ⟨_, _, _, _, h, _⟩
    cases h
  refine wp_mono h1 ?_
  rintro e a w ⟨b, rfl, rfl, g, rfl, hq⟩
  exact hp g w hq
theorem valA {rest : List Oper} {o : Oper} {v : Value} {w' : World} (hg : o.guard = none) (hrun : (execOp (ev n f) o).run P w = .ok (.value v) w')
    (h : wpList P ops Q rest (mkA n (updO f o.dst v)) w') : wpList P ops Q (o :: rest) (mkA n f) w := by
  refine wpList_plain hg fun K hK => ?_
  show o.upon P _ _ _ ((execOp (mkA n f).eval o).run P w)
  rw [mkA_evalF, hrun]
  show K ((mkA n f).put o.dst v) w'
  rw [mkA_put]; exact hK _ _ h
theorem dfA {rest : List Oper} {F : FuncId} {x : Operand} {ts : Array TypeId} {ty : TypeId} {pos : String} {af : Array Edge} {u : Value} (hx : ev n f x = u)
    (h : wpList P ops Q rest (addD [{ target := .fn (.func F) #[], args := #[u] }] (mkA n f)) w) : wpList P ops Q (⟨none, .defer ⟨.value (.func F), #[x], ts⟩, ty, pos, af, none⟩ :: rest) (mkA n f) w := by
  refine wpList_plain rfl fun K hK => ?_
  show Oper.upon P _ _ _ _ ((execOp (mkA n f).eval _).run P w)
  rw [mkA_evalF]
  have hF : ev n f (.func F) = .func (.func F) #[] #[] := rfl
  have e1 : (execOp (ev n f) ⟨none, .defer ⟨.value (.func F), #[x], ts⟩, ty, pos, af, none⟩).run P w = .ok (.defer { target := .fn (.func F) #[], args := #[u] }) w := by
    unfold execOp
    simp only [resolve, hF, Deferred.ofValue, Sem.run_bind, Sem.run_pure, Result.andThen_ok, List.map_toArray, List.map_cons, List.map_nil, hx]
    rfl
  rw [e1]
  exact hK _ _ h
theorem sqA {c x : Code} (h : W P n c (fun e f w => e = .normal ∧ x.wp P Q (mkA n f) w) f w) : (Code.seq c x).wp P Q (mkA n f) w :=
  wp_seq (wp_mono h (by rintro e a w ⟨g, rfl, rfl, hx⟩; exact hx))
theorem act_ini {fn : Func} {args : List Value} (hn : fn.ntmps = n) (hl : Nat.ble args.length n = true) : ({ tmps := args.toArray ++ Array.replicate (fn.ntmps - args.toArray.size) undef, defers := [] } : Act) = mkA n (ini args) := by
  have hle : args.length ≤ n := Nat.le_of_ble_eq_true hl
  rw [hn]
  simp only [mkA]
  congr 1
  apply Array.ext
  · simp; omega
  · intro i h1 h2
    simp only [Array.getElem_map, Array.getElem_range, ini_getD]
    by_cases hi : i < args.length
    · rw [Array.getElem_append_left (by simpa using hi)]
      simp [List.getD, hi]
    · rw [Array.getElem_append_right (by simpa using hi)]
      simp [List.getD, List.getElem?_eq_none (Nat.le_of_not_lt hi)]
theorem enterDf {F : FuncId} {fn : Func} {c : Code} {args : List Value} {R : Ending → World → Prop} (hf : P.funcs[F]? = some fn) (hb : fn.body = some c) (hn : fn.ntmps = n) (hl : Nat.ble args.length n = true)
    (h : c.wp P (bodyPostD P fn R) (mkA n (ini args)) w) : Calls P F args.toArray w R := by
  refine calls_of_wp_defers hf hb ?_
  rw [act_ini hn hl]; exact h
theorem K.set0 {e w : World} {G : View} {L : Own} {b t : Nat} {v u : Value} {l : List Value} (hK : K e w G ((b, row (v :: l) t) :: L)) : K e (w.setCell ⟨b, 0, none⟩ u) G ((b, row (u :: l) t) :: L) := by
  have hb := hK.own b _ (List.mem_cons_self ..)
  have hs := setCell_eq_setRow w b 0 (v :: l).toArray t (0, 0) u hb
  rw [hs]
  have this : K e (w.setRow b ((v :: l).toArray.setIfInBounds 0 u)) G ((b, .cells ((v :: l).toArray.setIfInBounds 0 u) t (0, 0)) :: L) := K.write (L := L) hK rfl rfl rfl (setRow_heap w b (v :: l).toArray ((v :: l).toArray.setIfInBounds 0 u) t (0, 0) hb) (fun k' hk' x hx => by rw [setRow_other w b k' _ hk']; exact hx)
  have e1 : (v :: l).toArray.setIfInBounds 0 u = (u :: l).toArray := by simp
  rw [e1] at this ⊢
  exact this
end
end Go.Ro
namespace Go.Proofs.YtmgggljicpmndaaGreatDoor
open Go Go.Ro
theorem Ty.mixed : Tryz.prog.follows .mixedOrders = true := by kernel_rfl
theorem Ty.o2 : OneC Tryz.prog 2 := ⟨_, Tryz.underlying2, rfl⟩
theorem Ty.s2 : (Tryz.prog.info? 2).map (·.size) = some 1 := by kernel_rfl
theorem Ty.i2 : Inf Tryz.prog 2 (.int .i64 0) 1 8 := by unfold Inf; kernel_rfl
theorem Ty.o3 : OneC Tryz.prog 3 := ⟨_, Tryz.underlying3, rfl⟩
theorem Ty.s3 : (Tryz.prog.info? 3).map (·.size) = some 1 := by kernel_rfl
theorem Ty.z3 : (Tryz.prog.info? 3).map (fun i => i.size == 0) = some false := by kernel_rfl
theorem Ty.i3 : Inf Tryz.prog 3 (.int .i64 0) 1 8 := by unfold Inf; kernel_rfl
theorem Ty.o4 : OneC Tryz.prog 4 := ⟨_, Tryz.underlying4, rfl⟩
theorem Ty.s4 : (Tryz.prog.info? 4).map (·.size) = some 1 := by kernel_rfl
theorem Ty.i4 : Inf Tryz.prog 4 (.bool false) 1 1 := by unfold Inf; kernel_rfl
theorem Ty.o5 : OneC Tryz.prog 5 := ⟨_, Tryz.underlying5, rfl⟩
theorem Ty.s5 : (Tryz.prog.info? 5).map (·.size) = some 1 := by kernel_rfl
theorem Ty.o22 : OneC Tryz.prog 22 := ⟨_, Tryz.underlying22, rfl⟩
theorem Ty.z22 : (Tryz.prog.info? 22).map (fun i => i.size == 0) = some false := by kernel_rfl
theorem Ty.i22 : Inf Tryz.prog 22 (.slice none 0 0) 1 24 := by unfold Inf; kernel_rfl
theorem Ty.o25 : OneC Tryz.prog 25 := ⟨_, Tryz.underlying25, rfl⟩
theorem Ty.z25 : (Tryz.prog.info? 25).map (fun i => i.size == 0) = some false := by kernel_rfl
theorem Ty.i25 : Inf Tryz.prog 25 (.slice none 0 0) 1 24 := by unfold Inf; kernel_rfl
theorem Ty.o26 : OneC Tryz.prog 26 := ⟨_, Tryz.underlying26, rfl⟩
theorem Ty.z26 : (Tryz.prog.info? 26).map (fun i => i.size == 0) = some false := by kernel_rfl
theorem Ty.i26 : Inf Tryz.prog 26 (.slice none 0 0) 1 24 := by unfold Inf; kernel_rfl
theorem Ty.o27 : OneC Tryz.prog 27 := ⟨_, Tryz.underlying27, rfl⟩
theorem Ty.z27 : (Tryz.prog.info? 27).map (fun i => i.size == 0) = some false := by kernel_rfl
theorem Ty.i27 : Inf Tryz.prog 27 (.slice none 0 0) 1 24 := by unfold Inf; kernel_rfl
theorem Ty.a29 : AggC Tryz.prog 29 := ⟨_, Tryz.underlying29, rfl⟩
theorem Ty.s29 : (Tryz.prog.info? 29).map (·.size) = some 2 := by kernel_rfl
theorem Ty.p29 : plc Tryz.prog 29 = some [(0, 1), (1, 1)] := by kernel_rfl
theorem Ty.z29 : (Tryz.prog.info? 29).map (fun i => i.size == 0) = some false := by kernel_rfl
theorem Ty.i29 : Inf Tryz.prog 29 (.agg #[(.int .i64 0), (.slice none 0 0)]) 2 32 := by unfold Inf; kernel_rfl
theorem Ty.a31 : AggC Tryz.prog 31 := ⟨_, Tryz.underlying31, rfl⟩
theorem Ty.s31 : (Tryz.prog.info? 31).map (·.size) = some 7 := by kernel_rfl
theorem Ty.p31 : plc Tryz.prog 31 = some [(0, 1), (1, 1), (2, 1), (3, 1), (4, 2), (6, 1)] := by kernel_rfl
theorem Ty.z31 : (Tryz.prog.info? 31).map (fun i => i.size == 0) = some false := by kernel_rfl
theorem Ty.i31 : Inf Tryz.prog 31 (.agg #[(.int .i64 0), (.slice none 0 0), (.slice none 0 0), (.slice none 0 0), (.int .i64 0), (.slice none 0 0), (.slice none 0 0)]) 7 136 := by unfold Inf; kernel_rfl
theorem Ty.o44 : OneC Tryz.prog 44 := ⟨_, Tryz.underlying44, rfl⟩
theorem Ty.z44 : (Tryz.prog.info? 44).map (fun i => i.size == 0) = some false := by kernel_rfl
theorem Ty.o45 : OneC Tryz.prog 45 := ⟨_, Tryz.underlying45, rfl⟩
theorem Ty.z45 : (Tryz.prog.info? 45).map (fun i => i.size == 0) = some false := by kernel_rfl
theorem Ty.o46 : OneC Tryz.prog 46 := ⟨_, Tryz.underlying46, rfl⟩
theorem Ty.z46 : (Tryz.prog.info? 46).map (fun i => i.size == 0) = some false := by kernel_rfl
theorem Ty.a47 : AggC Tryz.prog 47 := ⟨_, Tryz.underlying47, rfl⟩
theorem Ty.s47 : (Tryz.prog.info? 47).map (·.size) = some 2 := by kernel_rfl
theorem Ty.z47 : (Tryz.prog.info? 47).map (fun i => i.size == 0) = some false := by kernel_rfl
theorem Ty.a49 : AggC Tryz.prog 49 := ⟨_, Tryz.underlying49, rfl⟩
theorem Ty.s49 : (Tryz.prog.info? 49).map (·.size) = some 7 := by kernel_rfl
theorem Ty.a51 : AggC Tryz.prog 51 := ⟨_, Tryz.underlying51, rfl⟩
theorem Ty.s51 : (Tryz.prog.info? 51).map (·.size) = some 4 := by kernel_rfl
theorem Ty.a55 : AggC Tryz.prog 55 := ⟨_, Tryz.underlying55, rfl⟩
theorem Ty.s55 : (Tryz.prog.info? 55).map (·.size) = some 4 := by kernel_rfl
theorem Ty.i55 : Inf Tryz.prog 55 (.agg #[(.int .i64 0), (.int .i64 0), (.int .i64 0), (.int .i64 0)]) 4 32 := by unfold Inf; kernel_rfl
theorem Ty.i64 : Inf Tryz.prog 64 (.agg #[(.int .i32 0), (.int .u32 0)]) 2 8 := by unfold Inf; kernel_rfl
theorem Ty.z67 : (Tryz.prog.info? 67).map (fun i => i.size == 0) = some false := by kernel_rfl
theorem Ty.p69 : plc Tryz.prog 69 = some [(0, 2), (2, 7)] := by kernel_rfl
theorem Ty.i69 : Inf Tryz.prog 69 (.agg #[(.int .i32 0), (.int .u32 0), (.int .i64 0), (.slice none 0 0), (.slice none 0 0), (.slice none 0 0), (.int .i64 0), (.slice none 0 0), (.slice none 0 0)]) 9 144 := by unfold Inf; kernel_rfl
theorem Ty.a98 : AggC Tryz.prog 98 := ⟨_, Tryz.underlying98, rfl⟩
theorem Ty.s98 : (Tryz.prog.info? 98).map (·.size) = some 3 := by kernel_rfl
theorem Ty.p98 : plc Tryz.prog 98 = some [(0, 1), (1, 1), (2, 1)] := by kernel_rfl
theorem Ty.i98 : Inf Tryz.prog 98 (.agg #[(.int .i64 0), (.int .i64 0), (.slice none 0 0)]) 3 40 := by unfold Inf; kernel_rfl
theorem Ty.a101 : AggC Tryz.prog 101 := ⟨_, Tryz.underlying101, rfl⟩
theorem Ty.s101 : (Tryz.prog.info? 101).map (·.size) = some 3 := by kernel_rfl
theorem Ty.p101 : plc Tryz.prog 101 = some [(0, 1), (1, 1), (2, 1)] := by kernel_rfl
theorem Ty.i101 : Inf Tryz.prog 101 (.agg #[(.int .i64 0), (.int .i64 0), (.int .i64 0)]) 3 24 := by unfold Inf; kernel_rfl
theorem Ty.a104 : AggC Tryz.prog 104 := ⟨_, Tryz.underlying104, rfl⟩
theorem Ty.s104 : (Tryz.prog.info? 104).map (·.size) = some 2 := by kernel_rfl
theorem Ty.p104 : plc Tryz.prog 104 = some [(0, 1), (1, 1)] := by kernel_rfl
theorem Ty.i104 : Inf Tryz.prog 104 (.agg #[(.int .i64 0), (.int .i64 0)]) 2 16 := by unfold Inf; kernel_rfl
theorem Ty.a106 : AggC Tryz.prog 106 := ⟨_, Tryz.underlying106, rfl⟩
theorem Ty.s106 : (Tryz.prog.info? 106).map (·.size) = some 3 := by kernel_rfl
theorem Ty.a116 : AggC Tryz.prog 116 := ⟨_, Tryz.underlying116, rfl⟩
theorem Ty.s116 : (Tryz.prog.info? 116).map (·.size) = some 3 := by kernel_rfl
theorem Ty.a118 : AggC Tryz.prog 118 := ⟨_, Tryz.underlying118, rfl⟩
theorem Ty.s118 : (Tryz.prog.info? 118).map (·.size) = some 2 := by kernel_rfl
theorem Ty.o160 : OneC Tryz.prog 160 := ⟨_, Tryz.underlying160, rfl⟩
theorem Ty.o170 : OneC Tryz.prog 170 := ⟨_, Tryz.underlying170, rfl⟩
theorem Ty.z170 : (Tryz.prog.info? 170).map (fun i => i.size == 0) = some false := by kernel_rfl
theorem Ty.p172 : plc Tryz.prog 172 = some [(0, 1), (1, 1)] := by kernel_rfl
theorem Ty.i172 : Inf Tryz.prog 172 (.agg #[(.int .i64 0), (.pointer none)]) 2 16 := by unfold Inf; kernel_rfl
theorem Ty.p206 : plc Tryz.prog 206 = some [(0, 1)] := by kernel_rfl
theorem Ty.i206 : Inf Tryz.prog 206 (.agg #[(.slice none 0 0)]) 1 24 := by unfold Inf; kernel_rfl
open Go Go.Ro Tryz
section
variable {w : World} {C : World → Prop}
theorem l6In_c (hK : C w) {n lo hi : Int} : Ret prog 104 #[.int .i64 n, .int .i64 lo, .int .i64 hi] w (fun r w' => r = .bool (decide (lo ≤ n ∧ n ≤ hi)) ∧ C w') := by
 refine enter1 (args := [.int .i64 n, .int .i64 lo, .int .i64 hi]) func104 rfl rfl rfl rfl ?_
 refine sq <| rg <| ?_
 refine vl (aB rfl) <| nl <| thn <| sq <| rg <| vl (mI rfl) <| vl (mI rfl) <| vl (ge rfl rfl) <| vl (mB rfl) <| ?_
 refine splP (t := 10) rfl (fun h => ?_) fun h => ?_
 ·refine gy rfl <| vl (mI rfl) <| gy rfl <| vl (mI rfl) <| gy rfl <| vl (le rfl rfl) <| vl (pk rfl) <| vl (aB rfl) <| nl <| thn <| rt <| p1r (a := .bool _) rfl <| ?_
  exact ⟨by simp [h], hK⟩
 ·refine gn rfl <| gn rfl <| gn rfl <| vl (pk rfl) <| vl (aB rfl) <| nl <| thn <| rt <| p1r (a := .bool _) rfl <| ?_
  exact ⟨by simp [h], hK⟩
theorem inRange_c (hK : C w) {n lo hi : Int} : Ret prog 89 #[.int .i64 n, .int .i64 lo, .int .i64 hi] w (fun r w' => r = .bool (decide (lo ≤ n ∧ n ≤ hi)) ∧ C w') := by
 refine enter1 (args := [.int .i64 n, .int .i64 lo, .int .i64 hi]) func89 rfl rfl rfl rfl ?_
 refine sq <| rg <| ?_
 refine vl (aB rfl) <| nl <| thn <| sq <| rg <| vl (mI rfl) <| vl (mI rfl) <| vl (le rfl rfl) <| vl (mB rfl) <| ?_
 refine splP (t := 10) rfl (fun h => ?_) fun h => ?_
 ·refine gy rfl <| vl (mI rfl) <| gy rfl <| vl (mI rfl) <| gy rfl <| vl (le rfl rfl) <| vl (pk rfl) <| vl (aB rfl) <| nl <| thn <| rt <| p1r (a := .bool _) rfl <| ?_
  exact ⟨by simp [h], hK⟩
 ·refine gn rfl <| gn rfl <| gn rfl <| vl (pk rfl) <| vl (aB rfl) <| nl <| thn <| rt <| p1r (a := .bool _) rfl <| ?_
  exact ⟨by simp [h], hK⟩
theorem l1Point_c (hK : C w) {n : Int} : Ret prog 99 #[.int .i64 n] w (fun r w' => r = .bool (decide (0 ≤ n ∧ n ≤ 63)) ∧ C w') := by
 refine enter1 (args := [.int .i64 n]) func99 rfl rfl rfl rfl ?_
 refine sq <| rg <| ?_
 refine vl (aB rfl) <| nl <| thn <| sq <| rg <| vl (mI rfl) <| ?_
 refine cl call104 rfl (l6In_c (C := C) hK) ?_
 rintro _ w ⟨rfl, hK⟩
 refine vl (aB rfl) <| nl <| thn <| rt <| p1r (a := .bool _) rfl <| ?_
 exact ⟨rfl, hK⟩
theorem posok_c (hK : C w) {n : Int} : Ret prog 137 #[.int .i64 n] w (fun r w' => r = .bool (decide (0 ≤ n ∧ n ≤ 63)) ∧ C w') := by
 refine enter1 (args := [.int .i64 n]) func137 rfl rfl rfl rfl ?_
 refine sq <| rg <| ?_
 refine vl (aB rfl) <| nl <| thn <| sq <| rg <| vl (mI rfl) <| vl (ge rfl rfl) <| vl (mB rfl) <| ?_
 refine splP (t := 5) rfl (fun h => ?_) fun h => ?_
 ·refine gy rfl <| vl (mI rfl) <| gy rfl <| vl (lt rfl rfl) <| vl (pk rfl) <| vl (aB rfl) <| nl <| thn <| rt <| p1r (a := .bool _) rfl <| ?_
  exact ⟨by simp [h]; omega, hK⟩
 ·refine gn rfl <| gn rfl <| vl (pk rfl) <| vl (aB rfl) <| nl <| thn <| rt <| p1r (a := .bool _) rfl <| ?_
  exact ⟨by simp [h], hK⟩
end
open Go Go.Ro Tryz
section
variable {e w : World} {G : View} {L : Own} {v u : Value} {xs ys : List Int}
theorem set_map (xs : List Int) (i m : Nat) (hi : i < xs.length) (hm : m = xs.length) :
  (ints (xs.take i) ++ List.replicate (m - i) (Value.int .i64 0)).set (0 + i) (.int .i64 xs[i]) = ints (xs.take (i + 1)) ++ List.replicate (m - (i + 1)) (Value.int .i64 0) := by
 subst hm
 rw [Nat.zero_add, List.set_append_right _ _ (by simp [ints]; omega), List.take_succ_eq_append_getElem hi]
 have : i - (ints (xs.take i)).length = 0 := by simp [ints]; omega
 rw [this, show xs.length - i = (xs.length - (i + 1)) + 1 by omega, List.replicate_succ]
 simp only [ints, List.map_append, List.map_cons, List.map_nil, List.append_assoc, List.cons_append, List.nil_append, List.set_cons_zero]
theorem toIntS_c (hK : K e w G L) (hv : IntS G v xs) (hl : xs.length ≤ 1048576) :
  Ret prog 7 #[v] w (fun r w' => ∃ b, r = .slice (some ⟨b, 0, none⟩) xs.length xs.length ∧ K e w' G ((b, row (ints xs) 3) :: L)) := by
 refine enter1 (args := [v]) func7 rfl rfl rfl rfl ?_
 refine sq <| rg <| ?_
 refine vl asg <| nl <| thn <| sq <| rg <| vl mv <| vl (ln underlying22 rfl hv.len) <| ?_
 refine mks hK underlying22 Ty.i3 rfl rfl rfl rfl rfl (by first | omega | (simp only; omega)) rfl ?_
 intro b7 w ho7 hK
 refine vl asg <| nl <| thn <| sq <| sq <| rg <| vl (aI rfl) <| nl <| thn <| bk <| ?_
 rw [List.flatten_replicate_singleton] at hK ho7
 refine lp (σ := Nat) (fun i => [(0, v), (3, .slice (some ⟨b7, 0, none⟩) xs.length xs.length), (4, .int .i64 (i : Int))]) (fun i w => i ≤ xs.length ∧ K e w G ((b7, row (ints (xs.take i) ++ List.replicate (xs.length - i) (.int .i64 0)) 3) :: L)) (fun i => xs.length - i) 0 ⟨rfl, rfl, rfl, trivial⟩ ⟨Nat.zero_le _, by simpa [ints] using hK⟩ ?_
 rintro i g w ⟨hi, hK⟩
 refine sq <| sq <| rg <| ?_
 refine vl (mI rfl) <| vl mv <| vl (ln underlying22 rfl hv.len) <| vl (lt rfl rfl) <| nl <| thn <| ?_
 refine cdP rfl (fun hc => ?_) fun hc => ?_
 ·have hi' : i < xs.length := by omega
  refine sk <| thn <| sq <| bk <| rg <| ?_
  refine vl mv <| vl (mI rfl) <| vl mv <| vl (mI rfl) <| vl (ixn1 underlying22 Ty.s3 rfl hv.1 rfl (by first | omega | (simp only; omega))) <| vl (ldV hK Ty.o3 rfl (hv.at (by first | omega | (simp only; omega)))) <| vl (ixn1 underlying22 Ty.s3 rfl ho7.slw rfl (by first | omega | (simp only; omega))) <| ?_
  refine soi hK Ty.i3 rfl 0 rfl rfl rfl rfl (by simp; omega) ?_
  intro w hK
  refine nl <| bkn <| thn <| rg <| vl (mI rfl) <| vl (ad rfl rfl) <| vl (aI rfl) <| nl <| thn <| ?_
  refine ⟨i + 1, ⟨rfl, rfl, rfl, trivial⟩, ⟨by omega, ?_⟩, by omega⟩
  rw [← set_map xs i xs.length hi' rfl]; exact hK
 ·have : i = xs.length := by omega
  subst this
  refine ex <| the <| the <| bkh <| thn <| sq <| rg <| ?_
  refine vl mv <| vl asg <| nl <| thn <| rt <| p1r (a := _) rfl <| ?_
  exact ⟨_, rfl, by simpa [ints] using hK⟩
theorem toIntS_v (hK : K e w G L) (hv : IntS G v xs) (hl : xs.length ≤ 1048576) :
  Ret prog 7 #[v] w (fun r w' => ∃ G', VLe G G' ∧ IntS G' r xs ∧ K e w' G' L) :=
 (toIntS_c hK hv hl).mono fun _ _ ⟨_, hr, hK⟩ => by
  obtain ⟨G', h1, h2, h3⟩ := hK.pubI (Nat.le_refl _) (by omega)
  subst hr
  exact ⟨G', h1, h2, h3⟩
theorem eqIntS_c (hK : K e w G L) (hv : IntS G v xs) (hu : IntS G u ys) :
  Ret prog 11 #[v, u] w (fun r w' => r = .bool (decide (xs = ys)) ∧ K e w' G L) := by
 have hle := hv.le
 refine enter1 (args := [v, u]) func11 rfl rfl rfl rfl ?_
 refine sq <| rg <| ?_
 refine vl (aB rfl) <| nl <| thn <| sq <| sq <| rg <| vl mv <| vl (ln underlying22 rfl hv.len) <| vl mv <| vl (ln underlying22 rfl hu.len) <| vl (ne rfl rfl) <| nl <| thn <| ?_
 refine cdP rfl (fun h => ?_) fun h => ?_
 ·refine sq <| rg <| ?_
  refine vl (aB rfl) <| nl <| thn <| rt <| thr <| p1r (a := .bool _) rfl <| ?_
  exact ⟨by rw [decide_eq_false]; rintro rfl; exact h rfl, hK⟩
 ·have hlen : xs.length = ys.length := by omega
  refine sk <| thn <| sq <| sq <| rg <| ?_
  refine vl (aI rfl) <| nl <| thn <| bk <| ?_
  refine lp (σ := Nat) (fun i => [(0, v), (1, u), (5, .int .i64 (i : Int))]) (fun i w => i ≤ xs.length ∧ xs.take i = ys.take i ∧ K e w G L) (fun i => xs.length - i) 0 ⟨rfl, rfl, rfl, trivial⟩ ⟨Nat.zero_le _, by simp, hK⟩ ?_
  rintro i g w ⟨hi, ht, hK⟩
  refine sq <| sq <| rg <| ?_
  refine vl (mI rfl) <| vl mv <| vl (ln underlying22 rfl hv.len) <| vl (lt rfl rfl) <| nl <| thn <| ?_
  refine cdP rfl (fun hc => ?_) fun hc => ?_
  ·refine sk <| thn <| sq <| bk <| sq <| ?_
   refine rgq (fun w => K _ w _ _) Ty.mixed (by kernel_rfl) (hK.drawn _) ?_
   refine qv (fun w hK => mv) <| qv (fun w hK => (mI rfl)) <| qv (fun w hK => (ixn1 underlying22 Ty.s3 rfl hv.1 rfl (by first | omega | (simp only; omega)))) <| qldV Ty.o3 rfl (hv.at (by first | omega | (simp only; omega))) <| qv (fun w hK => mv) <| qv (fun w hK => (mI rfl)) <| qv (fun w hK => (ixn1 underlying22 Ty.s3 rfl hu.1 rfl (by first | omega | (simp only; omega)))) <| qldV Ty.o3 rfl (hu.at (by first | omega | (simp only; omega))) <| qv (fun w hK => (ne rfl rfl)) <| qn <| ?_
   intro w hK
   refine thn <| ?_
   refine cdP rfl (fun hx => ?_) fun hx => ?_
   ·refine sq <| rg <| ?_
    refine vl (aB rfl) <| nl <| thn <| rt <| bkr <| thr <| thr <| bkr <| thr <| p1r (a := .bool _) rfl <| ?_
    exact ⟨by rw [decide_eq_false]; rintro rfl; exact hx rfl, hK⟩
   ·refine sk <| bkn <| thn <| rg <| ?_
    refine vl (mI rfl) <| vl (ad rfl rfl) <| vl (aI rfl) <| nl <| thn <| ?_
    exact ⟨i + 1, ⟨rfl, rfl, rfl, trivial⟩, ⟨by omega, by rw [List.take_succ_eq_append_getElem (by omega), List.take_succ_eq_append_getElem (by omega), ht, Decidable.not_not.1 hx], hK⟩, by omega⟩
  ·refine ex <| the <| the <| bkh <| thn <| sq <| rg <| ?_
   refine vl (aB rfl) <| nl <| thn <| rt <| p1r (a := .bool _) rfl <| ?_
   exact ⟨by rw [decide_eq_true]; rw [List.take_of_length_le (by omega), List.take_of_length_le (by omega)] at ht; exact ht, hK⟩
theorem l1Has_c (hK : K e w G L) (hv : IntS G v xs) {n : Int} :
  Ret prog 77 #[v, .int .i64 n] w (fun r w' => r = .bool (decide (n ∈ xs)) ∧ K e w' G L) := by
 have hle := hv.le
 refine enter1 (args := [v, .int .i64 n]) func77 rfl rfl rfl rfl ?_
 refine sq <| rg <| ?_
 refine vl (aB rfl) <| nl <| thn <| sq <| sq <| rg <| vl (aI rfl) <| nl <| thn <| bk <| ?_
 refine lp (σ := Nat) (fun i => [(0, v), (1, .int .i64 n), (5, .int .i64 (i : Int))]) (fun i w => i ≤ xs.length ∧ n ∉ xs.take i ∧ K e w G L) (fun i => xs.length - i) 0 ⟨rfl, rfl, rfl, trivial⟩ ⟨Nat.zero_le _, by simp, hK⟩ ?_
 rintro i g w ⟨hi, hn, hK⟩
 refine sq <| sq <| rg <| ?_
 refine vl (mI rfl) <| vl mv <| vl (ln underlying22 rfl hv.len) <| vl (lt rfl rfl) <| nl <| thn <| ?_
 refine cdP rfl (fun hc => ?_) fun hc => ?_
 ·refine sk <| thn <| sq <| bk <| sq <| rg <| ?_
  refine vl mv <| vl (mI rfl) <| vl (ixn1 underlying22 Ty.s3 rfl hv.1 rfl (by first | omega | (simp only; omega))) <| vl (ldV hK Ty.o3 rfl (hv.at (by first | omega | (simp only; omega)))) <| vl (mI rfl) <| vl (eq rfl rfl) <| nl <| thn <| ?_
  refine cdP rfl (fun hx => ?_) fun hx => ?_
  ·refine sq <| rg <| ?_
   refine vl (aB rfl) <| nl <| thn <| rt <| bkr <| thr <| thr <| bkr <| thr <| p1r (a := .bool _) rfl <| ?_
   exact ⟨by rw [decide_eq_true]; rw [← hx]; exact List.getElem_mem _, hK⟩
  ·refine sk <| bkn <| thn <| rg <| ?_
   refine vl (mI rfl) <| vl (ad rfl rfl) <| vl (aI rfl) <| nl <| thn <| ?_
   exact ⟨i + 1, ⟨rfl, rfl, rfl, trivial⟩, ⟨by omega, by rw [List.take_succ_eq_append_getElem (by omega)]; grind, hK⟩, by omega⟩
 ·refine ex <| the <| the <| bkh <| thn <| sq <| rg <| ?_
  refine vl (aB rfl) <| nl <| thn <| rt <| p1r (a := .bool _) rfl <| ?_
  have : i = xs.length := by omega
  subst this
  exact ⟨by rw [decide_eq_false]; simpa using hn, hK⟩
theorem szIntS_c (hK : K e w G L) (hv : IntS G v xs) {n : Int} (h0 : 0 ≤ n) (h1 : n ≤ 1048576) :
  Ret prog 45 #[v, .int .i64 n] w (fun r w' => (∃ k, r = .int .i64 k ∧ -1 ≤ k ∧ k ≤ n ∧ (0 ≤ k → k = n - xs.length)) ∧ K e w' G L) := by
 have hle := hv.le
 refine enter1 (args := [v, .int .i64 n]) func45 rfl rfl rfl rfl ?_
 refine sq <| rg <| ?_
 refine vl (aI rfl) <| nl <| thn <| sq <| rg <| vl (mI rfl) <| vl mv <| vl (ln underlying22 rfl hv.len) <| vl (sb rfl rfl) <| vl (aI rfl) <| nl <| thn <| sq <| sq <| rg <| vl (mI rfl) <| vl (lt rfl rfl) <| nl <| thn <| ?_
 refine cdP rfl (fun h => ?_) fun h => ?_
 ·refine sq <| rg <| ?_
  refine vl (aI rfl) <| nl <| thn <| rt <| thr <| p1r (a := .int _ _) rfl <| ?_
  exact ⟨⟨_, rfl, by omega, by omega, by omega⟩, hK⟩
 ·refine sk <| thn <| sq <| rg <| ?_
  refine vl (mI rfl) <| vl (aI rfl) <| nl <| thn <| rt <| p1r (a := .int _ _) rfl <| ?_
  exact ⟨⟨_, rfl, by omega, by omega, by omega⟩, hK⟩
end
end Go.Proofs.YtmgggljicpmndaaGreatDoor
