/- Functions that defer one call. Plays of a world and quiet periods, plain. Closed facts on the types of the program. Contracts of the small functions on numbers. Contracts of the functions on puzzles. Contracts of the reader of a code. Conditions: those that each row states. -/
import Derived.Test.YtmfolinemnlnbaaGreatDoorWm2
import Derived.Defers
import Derived.Test.YtmfolinemnlnbaaGreatDoorOx
import Derived.Test.YtmfolinemnlnbaaGreatDoorFin
import Derived.Test.YtmfolinemnlnbaaGreatDoorProg
import Derived.Test.YtmfolinemnlnbaaGreatDoorSs
namespace Go.Ro
open Go
def addD (D : List Deferred) (a : Act) : Act := { a with defers := a.defers ++ D }
section
variable {P : Program} {n : Nat} {Q : Exit → Act → World → Prop} {f : Sl} {w : World} {ops : Array Oper} {D : List Deferred}
theorem put_addD {a : Act} {d : Option Tmp} {v : Value} : (addD D a).put d v = addD D (a.put d v) := by cases d <;> rfl
theorem putd_addD {a : Act} {d : Option Tmp} {v : Value} {x : Deferred} : Act.put { addD D a with defers := x :: (addD D a).defers } d v = addD D (Act.put { a with defers := x :: a.defers } d v) := by cases d <;> rfl
theorem owp_addD {o : Oper} {a : Act} {w : World} {next : Act → World → Prop} (hh : o.wp P a w (fun a' w' => next (addD D a') w') (fun e a' w' => Q e (addD D a') w')) : o.wp P (addD D a) w next Q := by
  unfold Oper.wp at *
  have he : execOp (addD D a).eval o = execOp a.eval o := rfl
  rw [he]
  generalize (execOp a.eval o).run P w = r at *
  cases r with
  | ok n w' =>
    cases n <;> simp only [Oper.upon, put_addD, putd_addD] at hh ⊢ <;>
      first
        | exact hh
        | exact Calls.mono hh (fun e w'' he => by cases e <;> first | exact he | exact (let ⟨a, w, x⟩ := he; ⟨addD D a, w, x⟩))
        | exact Rows.mono hh (fun _ _ he => he)
  | halt x w' => cases x <;> simp only [Oper.upon] at hh ⊢ <;> exact hh
theorem any_addD {S : World → Prop} (hno : ¬ LetsOut fun e a' w' => Q e (addD D a') w') : ∀ (k : Nat) (l : Array Bool) (a : Act) (w : World), wpAnyH P .any ops (fun e a' w' => Q e (addD D a') w') S k l a w → wpAnyH P .any ops Q S k l (addD D a) w
  | 0, _, _, _, h => h
  | k + 1, l, a, w, h => ⟨h.1, fun i hi => by
    have := h.2 i hi
    unfold wpOp at this ⊢
    cases ho : ops[i]? with
    | none => simp only [ho] at this ⊢; exact ⟨this.1, any_addD hno k _ _ _ this.2⟩
    | some o =>
      simp only [ho] at this ⊢
      have hy : (yielded ops (addD D a).tmps) = yielded ops a.tmps := rfl
      rw [hy, put_addD]
      split
      · rename_i hw
        rw [if_pos hw] at this
        rcases this with h1 | h1
        · exact .inl (owp_addD (owp_mono (fun a' w' hk => ⟨hk.1, any_addD hno k _ _ _ hk.2⟩) (fun _ _ _ _ h => h) h1))
        · exact absurd h1.2 hno
      · rename_i hw
        rw [if_neg hw] at this
        exact ⟨this.1, any_addD hno k _ _ _ this.2⟩⟩
theorem rgxD {id k : Nat} {ol : List Oper} {Q3 : Po} (S : World → Prop) (l : List Bool) (hm : P.follows .mixedOrders = true) (hl : Array.replicate ol.toArray.size false = l.toArray) (hk : ol.toArray.size = k) {C : World → Prop} (hC : C { w with drawn := w.drawn + 1 })
    (h : ∀ w, C w → WX P n ol.toArray S Q3 k l f w) (hp : ∀ g w, Q3 .normal g w → Q .normal (addD D (mkA n g)) w) : (Code.region id ol.toArray true).wp P Q (addD D (mkA n f)) w := by
  have h1 : (Code.region id ol.toArray true).wp P (fun e a w => ∃ b, a = addD D b ∧ Nq n Q3 e b w) (addD D (mkA n f)) w := by
    refine wp_region_held (S := S) hm ?_
    rw [hl, hk]
    have hm' : ∀ (k : Nat) (l : Array Bool) (a : Act) (w : World), wpAnyH P .any ol.toArray (Nq n Q3) S k l a w → wpAnyH P .any ol.toArray (fun e a' w' => ∃ b, addD D a' = addD D b ∧ Nq n Q3 e b w') S k l a w := by
      intro k
      induction k with
      | zero => intro l a w h; exact ⟨h.1, a, rfl, h.2⟩
      | succ k ih => intro l a w h; exact ⟨fun hr => ⟨a, rfl, h.1 hr⟩, fun i hi => by
          have := h.2 i hi
          unfold wpOp at this ⊢
          cases ho : ol.toArray[i]? with
          | none => simp only [ho] at this ⊢; exact ⟨this.1, ih _ _ _ this.2⟩
          | some o =>
            simp only [ho] at this ⊢
            split
            · rename_i hw
              rw [if_pos hw] at this
              rcases this with h1 | h1
              · exact .inl (owp_mono (fun a' w' hk => ⟨hk.1, ih _ _ _ hk.2⟩) (fun e a w _ h => ⟨a, rfl, h⟩) h1)
              · obtain ⟨_, _, _, h, _⟩ := h1; cases h
            · rename_i hw
              rw [if_neg hw] at this
              exact ⟨this.1, ih _ _ _ this.2⟩⟩
    refine any_addD ?_ _ _ _ _ (hm' _ _ _ _ (h _ hC))
    rintro ⟨_, _, _, _, h, _⟩
    cases h
  refine wp_mono h1 ?_
  rintro e a w ⟨b, rfl, rfl, g, rfl, hq⟩
  exact hp g w hq
theorem valA {rest : List Oper} {o : Oper} {v : Value} {w' : World} (hg : o.guard = none) (hrun : (execOp (ev n f) o).run P w = .ok (.value v) w')
    (h : wpList P ops Q rest (mkA n (updO f o.dst v)) w') : wpList P ops Q (o :: rest) (mkA n f) w := by
  refine wpList_plain hg fun K hK => ?_
  show o.upon P _ _ _ ((execOp (mkA n f).eval o).run P w)
  rw [mkA_evalF, hrun]
  show K ((mkA n f).put o.dst v) w'
  rw [mkA_put]; exact hK _ _ h
theorem dfA {rest : List Oper} {F : FuncId} {x : Operand} {ts : Array TypeId} {ty : TypeId} {pos : String} {af : Array Edge} {u : Value} (hx : ev n f x = u)
    (h : wpList P ops Q rest (addD [{ target := .fn (.func F) #[], args := #[u] }] (mkA n f)) w) : wpList P ops Q (⟨none, .defer ⟨.value (.func F), #[x], ts⟩, ty, pos, af, none⟩ :: rest) (mkA n f) w := by
  refine wpList_plain rfl fun K hK => ?_
  show Oper.upon P _ _ _ _ ((execOp (mkA n f).eval _).run P w)
  rw [mkA_evalF]
  have hF : ev n f (.func F) = .func (.func F) #[] #[] := rfl
  have e1 : (execOp (ev n f) ⟨none, .defer ⟨.value (.func F), #[x], ts⟩, ty, pos, af, none⟩).run P w = .ok (.defer { target := .fn (.func F) #[], args := #[u] }) w := by
    unfold execOp
    simp only [resolve, hF, Deferred.ofValue, Sem.run_bind, Sem.run_pure, Result.andThen_ok, List.map_toArray, List.map_cons, List.map_nil, hx]
    rfl
  rw [e1]
  exact hK _ _ h
theorem sqA {c x : Code} (h : W P n c (fun e f w => e = .normal ∧ x.wp P Q (mkA n f) w) f w) : (Code.seq c x).wp P Q (mkA n f) w :=
  wp_seq (wp_mono h (by rintro e a w ⟨g, rfl, rfl, hx⟩; exact hx))
theorem act_ini {fn : Func} {args : List Value} (hn : fn.ntmps = n) (hl : Nat.ble args.length n = true) : ({ tmps := args.toArray ++ Array.replicate (fn.ntmps - args.toArray.size) undef, defers := [] } : Act) = mkA n (ini args) := by
  have hle : args.length ≤ n := Nat.le_of_ble_eq_true hl
  rw [hn]
  simp only [mkA]
  congr 1
  apply Array.ext
  · simp; omega
  · intro i h1 h2
    simp only [Array.getElem_map, Array.getElem_range, ini_getD]
    by_cases hi : i < args.length
    · rw [Array.getElem_append_left (by simpa using hi)]
      simp [List.getD, hi]
    · rw [Array.getElem_append_right (by simpa using hi)]
      simp [List.getD, List.getElem?_eq_none (Nat.le_of_not_lt hi)]
theorem enterDf {F : FuncId} {fn : Func} {c : Code} {args : List Value} {R : Ending → World → Prop} (hf : P.funcs[F]? = some fn) (hb : fn.body = some c) (hn : fn.ntmps = n) (hl : Nat.ble args.length n = true)
    (h : c.wp P (bodyPostD P fn R) (mkA n (ini args)) w) : Calls P F args.toArray w R := by
  refine calls_of_wp_defers hf hb ?_
  rw [act_ini hn hl]; exact h
theorem K.set0 {e w : World} {G : View} {L : Own} {b t : Nat} {v u : Value} {l : List Value} (hK : K e w G ((b, row (v :: l) t) :: L)) : K e (w.setCell ⟨b, 0, none⟩ u) G ((b, row (u :: l) t) :: L) := by
  have hb := hK.own b _ (List.mem_cons_self ..)
  have hs := setCell_eq_setRow w b 0 (v :: l).toArray t (0, 0) u hb
  rw [hs]
  have this : K e (w.setRow b ((v :: l).toArray.setIfInBounds 0 u)) G ((b, .cells ((v :: l).toArray.setIfInBounds 0 u) t (0, 0)) :: L) := K.write (L := L) hK rfl rfl rfl (setRow_heap w b (v :: l).toArray ((v :: l).toArray.setIfInBounds 0 u) t (0, 0) hb) (fun k' hk' x hx => by rw [setRow_other w b k' _ hk']; exact hx)
  have e1 : (v :: l).toArray.setIfInBounds 0 u = (u :: l).toArray := by simp
  rw [e1] at this ⊢
  exact this
end
open Go
abbrev Ev := Int × Int × Int × Int
def evc (x : Ev) : List Value := [.int .i64 x.1, .int .i64 x.2.1, .int .i64 x.2.2.1, .int .i64 x.2.2.2]
abbrev EvS := SlR 4 (EF evc)
noncomputable def doE (w : Wd) (x : Ev) : Wd := doW w x.1 x.2.1 x.2.2.1 x.2.2.2
noncomputable def plE (w : Wd) (es : List Ev) : Wd := es.foldl doE w
noncomputable def plF (xs : List Int) (es : List Ev) : Wd := plE (newW xs) es
def PlOk (xs : List Int) (es : List Ev) : Prop := (NdsOk xs ∧ 3 ≤ xs.length) ∧ es.length ≤ 80
theorem plE_ok : ∀ (es : List Ev) {w : Wd}, WdOk w → WdOk (plE w es)
  | [], _, h => h
  | x :: es, _, h => plE_ok es (doW_ok h x.1 x.2.1 x.2.2.1 x.2.2.2)
theorem plE_snoc (w : Wd) (es : List Ev) (x : Ev) : plE w (es ++ [x]) = doE (plE w es) x := by unfold plE; rw [List.foldl_append]; rfl
theorem plE_take {w : Wd} {es : List Ev} {i : Nat} (hi : i < es.length) : plE w (es.take (i + 1)) = doE (plE w (es.take i)) es[i] := by
  rw [List.take_succ_eq_append_getElem hi, plE_snoc]
theorem plF_ok {xs : List Int} {es : List Ev} (h : PlOk xs es) : WdOk (plF xs es) := plE_ok es (newW_ok h.1.1 h.1.2)
def calN (n : Int) : Int := min (n + 21) 999
def calW (w : Wd) : Wd := ⟨calN w.now, idl (ids w.ring), (ids w.ring).map (fun k => (k, k, utl (calN w.now))), w.items, w.scan, w.since⟩
noncomputable def calF (w : Wd) : Wd := if dec (WdOk w) = true then calW w else wdZ
def Sct (ls : List Ls) (ks : List Int) (i : Nat) (s : Sn) : Prop := ∃ j, j ≤ i ∧ s = itr ls ks j ∧ (∀ l, l < j → (itr ls ks l).1 < 64) ∧ (s.1 = 64 ∨ j = i)
theorem Sct.zero {ls : List Ls} {ks : List Int} : Sct ls ks 0 (0, []) := ⟨0, Nat.le_refl _, rfl, fun _ h => absurd h (Nat.not_lt_zero _), .inr rfl⟩
theorem Sct.done {ls : List Ls} {ks : List Int} {s : Sn} (hl : LsOk ls) (hk : Asc ks) (h : Sct ls ks (ls.length + 1) s) : s.1 = 64 ∧ s.2 = ks := by
  obtain ⟨j, hj, rfl, h1, h2⟩ := h
  obtain ⟨g1, _, _, g4⟩ := itr_ok hl hk j h1
  have hc := List.countP_le_length (l := ls) (p := fun x => decide (x.1 < (itr ls ks j).1))
  rcases h2 with h2 | h2
  · exact ⟨h2, (Whole.told hl hk ⟨h2, h1⟩).1⟩
  · by_cases h3 : (itr ls ks j).1 = 64
    · exact ⟨h3, (Whole.told hl hk ⟨h3, h1⟩).1⟩
    · rw [if_neg h3] at g4; omega
theorem doW_scan (w : Wd) (a b c : Int) : doW w 14 a b c = scW w := by
  unfold doW; rw [if_neg (by omega), if_neg (by omega), if_neg (by omega), if_neg (by omega), if_pos rfl]
theorem Sct.step {w : Wd} {i : Nat} {s : Sn} (ho : ∀ k, 0 ≤ own w k) (hl : LsOk w.leases) (hk : Asc (keys w.items)) (h : Sct w.leases (keys w.items) i s) :
    ∃ s', doW { w with scan := s } 14 0 0 0 = { w with scan := s' } ∧ Sct w.leases (keys w.items) (i + 1) s' := by
  obtain ⟨j, hj, rfl, h1, h2⟩ := h
  rw [doW_scan]
  unfold scW
  by_cases h3 : (itr w.leases (keys w.items) j).1 < 64
  · refine ⟨itr w.leases (keys w.items) (j + 1), if_pos ⟨h3, ho _⟩, j + 1, by omega, rfl, fun l hl => ?_, ?_⟩
    · rcases Nat.lt_succ_iff_lt_or_eq.1 hl with g | g
      · exact h1 l g
      · rw [g]; exact h3
    · rcases h2 with h2 | h2
      · omega
      · exact .inr (by omega)
  · refine ⟨itr w.leases (keys w.items) j, if_neg fun g => h3 g.1, j, by omega, rfl, h1, .inl ?_⟩
    have := (itr_ok hl hk j h1).1.1.2
    omega
end Go.Ro
namespace Go.Proofs.YtmfolinemnlnbaaGreatDoor
open Go Go.Ro
theorem Ty.mixed : Tryz.prog.follows .mixedOrders = true := by kernel_rfl
theorem Ty.o2 : OneC Tryz.prog 2 := ⟨_, Tryz.underlying2, rfl⟩
theorem Ty.s2 : (Tryz.prog.info? 2).map (·.size) = some 1 := by kernel_rfl
theorem Ty.i2 : Inf Tryz.prog 2 (.int .i64 0) 1 8 := by unfold Inf; kernel_rfl
theorem Ty.o3 : OneC Tryz.prog 3 := ⟨_, Tryz.underlying3, rfl⟩
theorem Ty.s3 : (Tryz.prog.info? 3).map (·.size) = some 1 := by kernel_rfl
theorem Ty.z3 : (Tryz.prog.info? 3).map (fun i => i.size == 0) = some false := by kernel_rfl
theorem Ty.i3 : Inf Tryz.prog 3 (.int .i64 0) 1 8 := by unfold Inf; kernel_rfl
theorem Ty.z4 : (Tryz.prog.info? 4).map (fun i => i.size == 0) = some false := by kernel_rfl
theorem Ty.o5 : OneC Tryz.prog 5 := ⟨_, Tryz.underlying5, rfl⟩
theorem Ty.s5 : (Tryz.prog.info? 5).map (·.size) = some 1 := by kernel_rfl
theorem Ty.o22 : OneC Tryz.prog 22 := ⟨_, Tryz.underlying22, rfl⟩
theorem Ty.z22 : (Tryz.prog.info? 22).map (fun i => i.size == 0) = some false := by kernel_rfl
theorem Ty.o23 : OneC Tryz.prog 23 := ⟨_, Tryz.underlying23, rfl⟩
theorem Ty.z23 : (Tryz.prog.info? 23).map (fun i => i.size == 0) = some false := by kernel_rfl
theorem Ty.i23 : Inf Tryz.prog 23 (.slice none 0 0) 1 24 := by unfold Inf; kernel_rfl
theorem Ty.o24 : OneC Tryz.prog 24 := ⟨_, Tryz.underlying24, rfl⟩
theorem Ty.z24 : (Tryz.prog.info? 24).map (fun i => i.size == 0) = some false := by kernel_rfl
theorem Ty.i24 : Inf Tryz.prog 24 (.slice none 0 0) 1 24 := by unfold Inf; kernel_rfl
theorem Ty.o25 : OneC Tryz.prog 25 := ⟨_, Tryz.underlying25, rfl⟩
theorem Ty.z25 : (Tryz.prog.info? 25).map (fun i => i.size == 0) = some false := by kernel_rfl
theorem Ty.i25 : Inf Tryz.prog 25 (.slice none 0 0) 1 24 := by unfold Inf; kernel_rfl
theorem Ty.o26 : OneC Tryz.prog 26 := ⟨_, Tryz.underlying26, rfl⟩
theorem Ty.z26 : (Tryz.prog.info? 26).map (fun i => i.size == 0) = some false := by kernel_rfl
theorem Ty.i26 : Inf Tryz.prog 26 (.slice none 0 0) 1 24 := by unfold Inf; kernel_rfl
theorem Ty.a28 : AggC Tryz.prog 28 := ⟨_, Tryz.underlying28, rfl⟩
theorem Ty.s28 : (Tryz.prog.info? 28).map (·.size) = some 2 := by kernel_rfl
theorem Ty.p28 : plc Tryz.prog 28 = some [(0, 1), (1, 1)] := by kernel_rfl
theorem Ty.z28 : (Tryz.prog.info? 28).map (fun i => i.size == 0) = some false := by kernel_rfl
theorem Ty.i28 : Inf Tryz.prog 28 (.agg #[(.int .i64 0), (.slice none 0 0)]) 2 32 := by unfold Inf; kernel_rfl
theorem Ty.a30 : AggC Tryz.prog 30 := ⟨_, Tryz.underlying30, rfl⟩
theorem Ty.s30 : (Tryz.prog.info? 30).map (·.size) = some 7 := by kernel_rfl
theorem Ty.p30 : plc Tryz.prog 30 = some [(0, 1), (1, 1), (2, 1), (3, 1), (4, 2), (6, 1)] := by kernel_rfl
theorem Ty.z30 : (Tryz.prog.info? 30).map (fun i => i.size == 0) = some false := by kernel_rfl
theorem Ty.i30 : Inf Tryz.prog 30 (.agg #[(.int .i64 0), (.slice none 0 0), (.slice none 0 0), (.slice none 0 0), (.int .i64 0), (.slice none 0 0), (.slice none 0 0)]) 7 136 := by unfold Inf; kernel_rfl
theorem Ty.a32 : AggC Tryz.prog 32 := ⟨_, Tryz.underlying32, rfl⟩
theorem Ty.s32 : (Tryz.prog.info? 32).map (·.size) = some 4 := by kernel_rfl
theorem Ty.p32 : plc Tryz.prog 32 = some [(0, 1), (1, 1), (2, 1), (3, 1)] := by kernel_rfl
theorem Ty.i32 : Inf Tryz.prog 32 (.agg #[(.int .i64 0), (.int .i64 0), (.int .i64 0), (.int .i64 0)]) 4 32 := by unfold Inf; kernel_rfl
theorem Ty.a40 : AggC Tryz.prog 40 := ⟨_, Tryz.underlying40, rfl⟩
theorem Ty.s40 : (Tryz.prog.info? 40).map (·.size) = some 3 := by kernel_rfl
theorem Ty.p40 : plc Tryz.prog 40 = some [(0, 1), (1, 1), (2, 1)] := by kernel_rfl
theorem Ty.i40 : Inf Tryz.prog 40 (.agg #[(.int .i64 0), (.int .i64 0), (.slice none 0 0)]) 3 40 := by unfold Inf; kernel_rfl
theorem Ty.a54 : AggC Tryz.prog 54 := ⟨_, Tryz.underlying54, rfl⟩
theorem Ty.s54 : (Tryz.prog.info? 54).map (·.size) = some 2 := by kernel_rfl
theorem Ty.p54 : plc Tryz.prog 54 = some [(0, 1), (1, 1)] := by kernel_rfl
theorem Ty.i54 : Inf Tryz.prog 54 (.agg #[(.int .i64 0), (.int .i64 0)]) 2 16 := by unfold Inf; kernel_rfl
theorem Ty.i64 : Inf Tryz.prog 64 (.pointer none) 1 8 := by unfold Inf; kernel_rfl
theorem Ty.p68 : plc Tryz.prog 68 = some [(0, 1), (1, 1)] := by kernel_rfl
theorem Ty.z71 : (Tryz.prog.info? 71).map (fun i => i.size == 0) = some false := by kernel_rfl
theorem Ty.p73 : plc Tryz.prog 73 = some [(0, 2), (2, 7)] := by kernel_rfl
theorem Ty.i73 : Inf Tryz.prog 73 (.agg #[(.int .i32 0), (.int .u32 0), (.int .i64 0), (.slice none 0 0), (.slice none 0 0), (.slice none 0 0), (.int .i64 0), (.slice none 0 0), (.slice none 0 0)]) 9 144 := by unfold Inf; kernel_rfl
theorem Ty.p98 : plc Tryz.prog 98 = some [(0, 1), (1, 1)] := by kernel_rfl
theorem Ty.i98 : Inf Tryz.prog 98 (.agg #[(.slice none 0 0), (.int .i64 0)]) 2 32 := by unfold Inf; kernel_rfl
theorem Ty.a105 : AggC Tryz.prog 105 := ⟨_, Tryz.underlying105, rfl⟩
theorem Ty.s105 : (Tryz.prog.info? 105).map (·.size) = some 3 := by kernel_rfl
theorem Ty.p105 : plc Tryz.prog 105 = some [(0, 1), (1, 1), (2, 1)] := by kernel_rfl
theorem Ty.i105 : Inf Tryz.prog 105 (.agg #[(.int .i64 0), (.int .i64 0), (.int .i64 0)]) 3 24 := by unfold Inf; kernel_rfl
theorem Ty.o149 : OneC Tryz.prog 149 := ⟨_, Tryz.underlying149, rfl⟩
theorem Ty.o158 : OneC Tryz.prog 158 := ⟨_, Tryz.underlying158, rfl⟩
theorem Ty.z158 : (Tryz.prog.info? 158).map (fun i => i.size == 0) = some false := by kernel_rfl
theorem Ty.p160 : plc Tryz.prog 160 = some [(0, 1), (1, 1)] := by kernel_rfl
theorem Ty.i160 : Inf Tryz.prog 160 (.agg #[(.int .i64 0), (.pointer none)]) 2 16 := by unfold Inf; kernel_rfl
theorem Ty.p195 : plc Tryz.prog 195 = some [(0, 1)] := by kernel_rfl
theorem Ty.i195 : Inf Tryz.prog 195 (.agg #[(.slice none 0 0)]) 1 24 := by unfold Inf; kernel_rfl
open Go Go.Ro Tryz
section
variable {w : World} {C : World → Prop}
theorem l6In_c (hK : C w) {n lo hi : Int} : Ret prog 94 #[.int .i64 n, .int .i64 lo, .int .i64 hi] w (fun r w' => r = .bool (decide (lo ≤ n ∧ n ≤ hi)) ∧ C w') := by
 refine enter1 (args := [.int .i64 n, .int .i64 lo, .int .i64 hi]) func94 rfl rfl rfl rfl ?_
 refine sq <| rg <| ?_
 refine vl (aB rfl) <| nl <| thn <| sq <| rg <| vl (mI rfl) <| vl (mI rfl) <| vl (ge rfl rfl) <| vl (mB rfl) <| ?_
 refine splP (t := 10) rfl (fun h => ?_) fun h => ?_
 ·refine gy rfl <| vl (mI rfl) <| gy rfl <| vl (mI rfl) <| gy rfl <| vl (le rfl rfl) <| vl (pk rfl) <| vl (aB rfl) <| nl <| thn <| rt <| p1r (a := .bool _) rfl <| ?_
  exact ⟨by simp [h], hK⟩
 ·refine gn rfl <| gn rfl <| gn rfl <| vl (pk rfl) <| vl (aB rfl) <| nl <| thn <| rt <| p1r (a := .bool _) rfl <| ?_
  exact ⟨by simp [h], hK⟩
theorem inRange_c (hK : C w) {n lo hi : Int} : Ret prog 63 #[.int .i64 n, .int .i64 lo, .int .i64 hi] w (fun r w' => r = .bool (decide (lo ≤ n ∧ n ≤ hi)) ∧ C w') := by
 refine enter1 (args := [.int .i64 n, .int .i64 lo, .int .i64 hi]) func63 rfl rfl rfl rfl ?_
 refine sq <| rg <| ?_
 refine vl (aB rfl) <| nl <| thn <| sq <| rg <| vl (mI rfl) <| vl (mI rfl) <| vl (le rfl rfl) <| vl (mB rfl) <| ?_
 refine splP (t := 10) rfl (fun h => ?_) fun h => ?_
 ·refine gy rfl <| vl (mI rfl) <| gy rfl <| vl (mI rfl) <| gy rfl <| vl (le rfl rfl) <| vl (pk rfl) <| vl (aB rfl) <| nl <| thn <| rt <| p1r (a := .bool _) rfl <| ?_
  exact ⟨by simp [h], hK⟩
 ·refine gn rfl <| gn rfl <| gn rfl <| vl (pk rfl) <| vl (aB rfl) <| nl <| thn <| rt <| p1r (a := .bool _) rfl <| ?_
  exact ⟨by simp [h], hK⟩
theorem l1Point_c (hK : C w) {n : Int} : Ret prog 97 #[.int .i64 n] w (fun r w' => r = .bool (decide (0 ≤ n ∧ n ≤ 63)) ∧ C w') := by
 refine enter1 (args := [.int .i64 n]) func97 rfl rfl rfl rfl ?_
 refine sq <| rg <| ?_
 refine vl (aB rfl) <| nl <| thn <| sq <| rg <| vl (mI rfl) <| ?_
 refine cl call94 rfl (l6In_c (C := C) hK) ?_
 rintro _ w ⟨rfl, hK⟩
 refine vl (aB rfl) <| nl <| thn <| rt <| p1r (a := .bool _) rfl <| ?_
 exact ⟨rfl, hK⟩
theorem posok_c (hK : C w) {n : Int} : Ret prog 70 #[.int .i64 n] w (fun r w' => r = .bool (decide (0 ≤ n ∧ n ≤ 63)) ∧ C w') := by
 refine enter1 (args := [.int .i64 n]) func70 rfl rfl rfl rfl ?_
 refine sq <| rg <| ?_
 refine vl (aB rfl) <| nl <| thn <| sq <| rg <| vl (mI rfl) <| vl (ge rfl rfl) <| vl (mB rfl) <| ?_
 refine splP (t := 5) rfl (fun h => ?_) fun h => ?_
 ·refine gy rfl <| vl (mI rfl) <| gy rfl <| vl (lt rfl rfl) <| vl (pk rfl) <| vl (aB rfl) <| nl <| thn <| rt <| p1r (a := .bool _) rfl <| ?_
  exact ⟨by simp [h]; omega, hK⟩
 ·refine gn rfl <| gn rfl <| vl (pk rfl) <| vl (aB rfl) <| nl <| thn <| rt <| p1r (a := .bool _) rfl <| ?_
  exact ⟨by simp [h], hK⟩
end
open Go Go.Ro Tryz
section
variable {e w : World} {G : View} {L : Own} {C : World → Prop}
end
open Go Go.Ro Tryz
section
variable {e w : World} {G : View} {L : Own} {C : World → Prop}
theorem pick_c {rb : Nat} {cva : Value} {code : List Int} {p n : Int} (hK : K e w G ((rb, row [cva, .int .i64 p] 98) :: L)) (hc : BytS G cva code) (hl : code.length ≤ 2000) (h0 : 0 ≤ p) (h1 : p ≤ 1000000000) :
  Ret prog 32 #[.pointer (some ⟨rb, 0, none⟩), .int .i64 n] w (fun r w' => (∃ k, r = .int .i64 k ∧ 0 ≤ k ∧ (1 ≤ n → k < n) ∧ (n < 1 → k = 0)) ∧ K e w' G ((rb, row [cva, .int .i64 (p + 1)] 98) :: L)) := by
 refine enter1 (args := [.pointer (some ⟨rb, 0, none⟩), .int .i64 n]) func32 rfl rfl rfl rfl ?_
 refine sq <| rg <| ?_
 refine vl (aI rfl) <| nl <| thn <| sq <| rg <| vl mv <| vl mv <| vl (nc rfl) <| vl (fa underlying98 rfl Ty.z3 rfl) <| vl (ldO hK Ty.o3 0 rfl rfl rfl) <| vl (ad rfl rfl) <| vl (nc rfl) <| vl (fa underlying98 rfl Ty.z3 rfl) <| ?_
 refine so hK Ty.i3 rfl 0 rfl rfl rfl rfl rfl ?_
 intro w hK
 refine nl <| thn <| sq <| sq <| rg <| vl (mI rfl) <| vl (lt rfl rfl) <| vl (mB rfl) <| ?_
 replace hK : K e w G ((rb, row [cva, .int .i64 (p + 1)] 98) :: L) := hK
 refine splP (t := 17) rfl (fun hn => ?_) fun hn => ?_
 ·refine gn rfl <| gn rfl <| gn rfl <| gn rfl <| gn rfl <| gn rfl <| vl (pk rfl) <| nl <| thn <| ?_
  refine cdt rfl ?_
  refine sq <| rg <| ?_
  refine vl (aI rfl) <| nl <| thn <| rt <| thr <| p1r (a := .int _ _) rfl <| ?_
  exact ⟨⟨_, rfl, by omega, by omega, fun _ => rfl⟩, hK⟩
 ·refine gy rfl <| vl mv <| gy rfl <| vl (nc rfl) <| gy rfl <| vl (fa underlying98 rfl Ty.z22 rfl) <| gy rfl <| vl (ldO hK Ty.o22 0 rfl rfl rfl) <| gy rfl <| vl (ln underlying22 rfl hc.len) <| gy rfl <| vl (eq rfl rfl) <| vl (pk rfl) <| nl <| thn <| ?_
  refine cdP rfl (fun he => ?_) fun he => ?_
  ·refine sq <| rg <| ?_
   refine vl (aI rfl) <| nl <| thn <| rt <| thr <| p1r (a := .int _ _) rfl <| ?_
   exact ⟨⟨_, rfl, by omega, by omega, fun _ => rfl⟩, hK⟩
  ·have hpos : 0 < code.length := by omega
   refine sk <| thn <| sq <| rg <| ?_
   refine vl mv <| vl (nc rfl) <| vl (fa underlying98 rfl Ty.z3 rfl) <| vl (ldO hK Ty.o3 0 rfl rfl rfl) <| vl (sb rfl rfl) <| vl (aI rfl) <| nl <| thn <| sq <| sq <| rg <| vl (mI rfl) <| vl mv <| vl (nc rfl) <| vl (fa underlying98 rfl Ty.z22 rfl) <| vl (ldO hK Ty.o22 0 rfl rfl rfl) <| vl (ln underlying22 rfl hc.len) <| vl (lt rfl rfl) <| nl <| thn <| ?_
   refine cdP rfl (fun hlt => ?_) fun hlt => ?_
   ·skip
    have hb := hc.bd (p + 1 - 1).toNat
    refine sq <| rg <| ?_
    refine vl mv <| vl (nc rfl) <| vl (fa underlying98 rfl Ty.z22 rfl) <| vl (ldO hK Ty.o22 0 rfl rfl rfl) <| vl (mI rfl) <| vl (ix1 underlying22 Ty.s5 rfl hc.1 rfl (by first | omega | (simp only; omega)) (by first | omega | (simp only; omega))) <| vl (ldV hK Ty.o5 rfl (hc.atI (by first | omega | (simp only; omega)) (by first | omega | (simp only; omega)))) <| vl (cv underlying5 underlying3 rfl (by first | omega | (simp only; omega)) (by first | omega | (simp only; omega))) <| vl (mI rfl) <| vl (rm rfl rfl) <| vl (aI rfl) <| nl <| thn <| rt <| thr <| p1r (a := .int _ _) rfl <| ?_
    have hm := Int.emod_lt_of_pos (code.getD (p + 1 - 1).toNat 0) (show 0 < n by omega)
    have hm' := Int.emod_nonneg (code.getD (p + 1 - 1).toNat 0) (show n ≠ 0 by omega)
    exact ⟨⟨_, rfl, hm', fun _ => hm, fun h => by omega⟩, hK⟩
   ·skip
    refine sk <| thn <| sq <| ?_
    have m1 := Int.emod_lt_of_pos (p + 1 - 1) (show (0 : Int) < code.length by omega)
    have m1' := Int.emod_nonneg (p + 1 - 1) (show (code.length : Int) ≠ 0 by omega)
    have m2 := Int.emod_lt_of_pos ((p + 1 - 1) * 7 + 3) (show (0 : Int) < code.length by omega)
    have m2' := Int.emod_nonneg ((p + 1 - 1) * 7 + 3) (show (code.length : Int) ≠ 0 by omega)
    have b1 := hc.bd ((p + 1 - 1) % code.length).toNat
    have b2 := hc.bd (((p + 1 - 1) * 7 + 3) % code.length).toNat
    have d1 : 0 ≤ (p + 1 - 1) / (code.length : Int) := Int.ediv_nonneg (by omega) (by omega)
    have d2 : (p + 1 - 1) / (code.length : Int) ≤ p + 1 - 1 := Int.ediv_le_self _ (by omega)
    refine rgq (fun w => K _ w _ _) Ty.mixed (by kernel_rfl) (hK.drawn _) ?_
    refine qv (fun w hK => mv) <| qv (fun w hK => (nc rfl)) <| qv (fun w hK => (fa underlying98 rfl Ty.z22 rfl)) <| qldO Ty.o22 0 rfl rfl rfl <| qv (fun w hK => (mI rfl)) <| qv (fun w hK => mv) <| qv (fun w hK => (nc rfl)) <| qv (fun w hK => (fa underlying98 rfl Ty.z22 rfl)) <| qldO Ty.o22 0 rfl rfl rfl <| qv (fun w hK => (ln underlying22 rfl hc.len)) <| qv (fun w hK => (rm rfl rfl)) <| qv (fun w hK => (ix1 underlying22 Ty.s5 rfl hc.1 rfl (by first | omega | (simp only; omega)) (by first | omega | (simp only; omega)))) <| qldV Ty.o5 rfl (hc.atI (by first | omega | (simp only; omega)) (by first | omega | (simp only; omega))) <| qv (fun w hK => (cv underlying5 underlying3 rfl (by first | omega | (simp only; omega)) (by first | omega | (simp only; omega)))) <| qv (fun w hK => (ml rfl rfl)) <| qv (fun w hK => mv) <| qv (fun w hK => (nc rfl)) <| qv (fun w hK => (fa underlying98 rfl Ty.z22 rfl)) <| qldO Ty.o22 0 rfl rfl rfl <| qv (fun w hK => (mI rfl)) <| qv (fun w hK => (ml rfl rfl)) <| qv (fun w hK => (ad rfl rfl)) <| qv (fun w hK => mv) <| qv (fun w hK => (nc rfl)) <| qv (fun w hK => (fa underlying98 rfl Ty.z22 rfl)) <| qldO Ty.o22 0 rfl rfl rfl <| qv (fun w hK => (ln underlying22 rfl hc.len)) <| qv (fun w hK => (rm rfl rfl)) <| qv (fun w hK => (ix1 underlying22 Ty.s5 rfl hc.1 rfl (by first | omega | (simp only; omega)) (by first | omega | (simp only; omega)))) <| qldV Ty.o5 rfl (hc.atI (by first | omega | (simp only; omega)) (by first | omega | (simp only; omega))) <| qv (fun w hK => (cv underlying5 underlying3 rfl (by first | omega | (simp only; omega)) (by first | omega | (simp only; omega)))) <| qv (fun w hK => (ml rfl rfl)) <| qv (fun w hK => (ad rfl rfl)) <| qv (fun w hK => (mI rfl)) <| qv (fun w hK => (ml rfl rfl)) <| qv (fun w hK => (ad rfl rfl)) <| qv (fun w hK => (mI rfl)) <| qv (fun w hK => mv) <| qv (fun w hK => (nc rfl)) <| qv (fun w hK => (fa underlying98 rfl Ty.z22 rfl)) <| qldO Ty.o22 0 rfl rfl rfl <| qv (fun w hK => (ln underlying22 rfl hc.len)) <| qv (fun w hK => (qu rfl rfl (by first | omega | (simp only; omega)) (by first | omega | (simp only; omega)) (by first | omega | (simp only; omega)))) <| qv (fun w hK => (ml rfl rfl)) <| qv (fun w hK => (ad rfl rfl)) <| qv (fun w hK => (aI rfl)) <| qn <| ?_
    intro w hK
    refine thn <| sq <| rg <| vl (mI rfl) <| vl (mI rfl) <| vl (qu rfl rfl (by first | omega | (simp only; omega)) (by first | omega | (simp only; omega)) (by first | omega | (simp only; omega))) <| ?_
    generalize hx : code.getD ((p + 1 - 1) % code.length).toNat 0 * 131 + code.getD (((p + 1 - 1) * 7 + 3) % code.length).toNat 0 * 1117 + (p + 1 - 1) * 29 + (p + 1 - 1) / code.length * 53 = x
    have x0 : 0 ≤ x := by omega
    have x1 : x < 4611686018427387904 := by omega
    have hz := xorI_bd x0 x1 (show 0 ≤ x / 64 by omega) (by omega)
    refine vl (xr rfl rfl (by first | omega | (simp only; omega)) (by first | omega | (simp only; omega)) (by first | omega | (simp only; omega)) (by first | omega | (simp only; omega))) <| vl (aI rfl) <| nl <| thn <| sq <| rg <| vl (mI rfl) <| vl (mI rfl) <| vl (rm rfl rfl) <| vl (aI rfl) <| nl <| thn <| rt <| p1r (a := .int _ _) rfl <| ?_
    have q1 := Int.emod_lt_of_pos (xorI x (x / 64)) (show 0 < n by omega)
    have q2 := Int.emod_nonneg (xorI x (x / 64)) (show n ≠ 0 by omega)
    exact ⟨⟨_, rfl, q2, fun _ => q1, fun h => by omega⟩, hK⟩
theorem pickN_c {rb : Nat} {cva : Value} {code : List Int} {p n : Int} (hK : K e w G ((rb, row [cva, .int .i64 p] 98) :: L)) (hc : BytS G cva code) (hl : code.length ≤ 2000) (h0 : 0 ≤ p) (h1 : p ≤ 1000000000) (hn : 1 ≤ n) :
  Ret prog 32 #[.pointer (some ⟨rb, 0, none⟩), .int .i64 n] w (fun r w' => (∃ k, r = .int .i64 k ∧ 0 ≤ k ∧ k < n) ∧ K e w' G ((rb, row [cva, .int .i64 (p + 1)] 98) :: L)) :=
 (pick_c hK hc hl h0 h1).mono fun _ _ ⟨⟨k, h1, h2, h3, _⟩, h5⟩ => ⟨⟨k, h1, h2, h3 hn⟩, h5⟩
theorem l6Open_c {cva : Value} {code : List Int} (hK : K e w G L) (hc : BytS G cva code) :
  Ret prog 29 #[cva] w (fun r w' => ∃ rb cvb cod, r = .pointer (some ⟨rb, 0, none⟩) ∧ BytS G cvb cod ∧ cod.length ≤ 2000 ∧ K e w' G ((rb, row [cvb, .int .i64 0] 98) :: L)) := by
 have hle := hc.le
 refine enter1 (args := [cva]) func29 rfl rfl rfl rfl ?_
 refine sq <| rg <| ?_
 refine vl asg <| nl <| thn <| sq <| sq <| rg <| vl mv <| vl (ln underlying22 rfl hc.len) <| vl (gt rfl rfl) <| nl <| thn <| ?_
 refine cdP rfl (fun h => ?_) fun h => ?_
 ·skip
  have hcb : BytS G (slc cva 0 2000 1) ((code.take 2000).drop 0) := SlR.slc hc (by omega) (by omega)
  refine rg <| ?_
  refine vl mv <| vl (slHi (h := 2000) underlying22 Ty.s5 rfl hc.1 rfl (by first | omega | (simp only; omega))) <| vl asg <| nl <| thn <| sq <| rg <| vl mv <| vl (bd [(0, _)] Ty.p98 Ty.i98 rfl ⟨⟨rfl, one_cells hcb.1.one⟩, trivial⟩ rfl) <| ?_
  refine bx hK rfl rfl ?_
  intro b10 w hK
  refine vl asg <| nl <| thn <| rt <| p1r (a := _) rfl <| ?_
  exact ⟨_, _, _, rfl, hcb, by simp; omega, hK⟩
 ·skip
  refine sk <| thn <| sq <| rg <| ?_
  refine vl mv <| vl (bd [(0, _)] Ty.p98 Ty.i98 rfl ⟨⟨rfl, one_cells hc.1.one⟩, trivial⟩ rfl) <| ?_
  refine bx hK rfl rfl ?_
  intro b10 w hK
  refine vl asg <| nl <| thn <| rt <| p1r (a := _) rfl <| ?_
  exact ⟨_, _, _, rfl, hc, by omega, hK⟩
variable {rb : Nat} {cva : Value} {code : List Int} {p : Int}
theorem l91Point_c (hK : K e w G ((rb, row [cva, .int .i64 p] 98) :: L)) (hcode : BytS G cva code) (hlen : code.length ≤ 2000) (h0 : 0 ≤ p) (h1 : p ≤ 900000000) :
  Ret prog 74 #[.pointer (some ⟨rb, 0, none⟩)] w (fun r w' => ∃ k p', r = .int .i64 k ∧ -1 ≤ k ∧ k ≤ 64 ∧ p ≤ p' ∧ p' ≤ p + 2 ∧ K e w' G ((rb, row [cva, .int .i64 p'] 98) :: L)) := by
 refine enter1 (args := [.pointer (some ⟨rb, 0, none⟩)]) func74 rfl rfl rfl rfl ?_
 refine sq <| rg <| ?_
 refine vl (aI rfl) <| nl <| thn <| sq <| sq <| rg <| vl mv <| ?_
 refine cl call32 rfl (pickN_c hK hcode hlen (by first | omega | (simp only; omega)) (by first | omega | (simp only; omega)) (by first | omega | (simp only; omega))) ?_
 rintro _ w ⟨⟨k4, rfl, hk4, hkn4⟩, hK⟩
 refine vl (eq rfl rfl) <| nl <| thn <| ?_
 refine cdP rfl (fun h => ?_) fun h => ?_
 ·refine sq <| rg <| ?_
  refine vl mv <| ?_
  refine cl call32 rfl (pickN_c hK hcode hlen (by first | omega | (simp only; omega)) (by first | omega | (simp only; omega)) (by first | omega | (simp only; omega))) ?_
  rintro _ w ⟨⟨k7, rfl, hk7, hkn7⟩, hK⟩
  refine vl (ml rfl rfl) <| vl (sb rfl rfl) <| vl (aI rfl) <| nl <| thn <| rt <| thr <| p1r (a := .int _ _) rfl <| ?_
  exact ⟨_, _, rfl, by omega, by omega, by omega, by omega, hK⟩
 ·refine sk <| thn <| sq <| rg <| ?_
  refine vl mv <| ?_
  refine cl call32 rfl (pickN_c hK hcode hlen (by first | omega | (simp only; omega)) (by first | omega | (simp only; omega)) (by first | omega | (simp only; omega))) ?_
  rintro _ w ⟨⟨k11, rfl, hk11, hkn11⟩, hK⟩
  refine vl (aI rfl) <| nl <| thn <| rt <| p1r (a := .int _ _) rfl <| ?_
  exact ⟨_, _, rfl, by omega, by omega, by omega, by omega, hK⟩
end
end Go.Proofs.YtmfolinemnlnbaaGreatDoor