/- Contracts of the tables of tokens: owners of keys. Conditions: those that each row states. -/
import Derived.Test.YtlpefeeadeocgaaPl1
namespace Go.Proofs.Ytlpefeeadeocgaa
open Go Go.Ro

section
variable {e w : World} {G : View} {L A : Own} {v u cva : Value} {code xs ys ns ws : List Int} {ts us : List (Int × Int)} {a b k n wt p key : Int} {i j bo o rb b1 b2 : Nat}

theorem ownerIn11_c (hK : K e w G ((bo, row [.int .i64 key] 3) :: L)) {x : Int × Int} : Ret Try.prog 35 #[.agg (tc x).toArray, .pointer (some ⟨bo, 0, none⟩)] w (fun r w' => r = .bool (decide (key ≤ x.1)) ∧ K e w' G ((bo, row [.int .i64 key] 3) :: L)) := by
 refine enter1 (args := [.agg (tc x).toArray, .pointer (some ⟨bo, 0, none⟩)]) Try.func35 rfl rfl rfl rfl ?_
 refine sq <| rg <| ?_
 refine bx hK rfl rfl ?_
 intro b2 w hK
 refine vl (aB rfl) <| nl <| thn <| sq <| rg <| vl (fa Try.underlying45 rfl Ty.z3 rfl) <| vl (ldO hK Ty.o3 0 rfl rfl rfl) <| vl (ldO hK Ty.o3 1 rfl rfl rfl) <| vl (ge rfl rfl) <| vl (aB rfl) <| nl <| thn <| rt <| p1r (a := .bool _) rfl <| ?_
 exact ⟨rfl, hK.drop1⟩

theorem indexFuncT_c {F : FuncId} {cap : List Value} {q : Int × Int → Bool} (hf : ∀ args w, (callFunc F args).run Try.prog w = .ok (.enter F args) w) (hK : K e w G L) (hv : TokS G v ts)
  (hp : ∀ x w, K e w G L → Ret Try.prog F ([Value.agg (tc x).toArray] ++ cap).toArray w (fun r w' => r = .bool (q x) ∧ K e w' G L)) :
  Ret Try.prog 34 #[v, .func (.func F) #[] cap.toArray] w (fun r w' => (∃ i, r = .int .i64 i ∧ IdxOf q ts i) ∧ K e w' G L) := by
 have hle := hv.le
 refine enter1 (args := [v, .func (.func F) #[] cap.toArray]) Try.func34 rfl rfl rfl rfl ?_
 refine sq <| rg <| ?_
 refine vl (aI rfl) <| nl <| thn <| sq <| sq <| rg <| vl mv <| vl (ln Try.underlying26 rfl hv.len) <| vl (mI rfl) <| nl <| thn <| bk <| ?_
 refine lp (σ := Nat) (fun i => [(0, v), (1, .func (.func F) #[] cap.toArray), (7, .int .i64 (ts.length : Int)), (8, .int .i64 (i : Int))]) (fun i w => i ≤ ts.length ∧ (∀ x ∈ ts.take i, q x = false) ∧ K e w G L) (fun i => ts.length - i) 0 ⟨rfl, rfl, rfl, rfl, trivial⟩ ⟨Nat.zero_le _, by simp, hK⟩ ?_
 rintro i g w ⟨hi, ha, hK⟩
 refine sq <| rg <| ?_
 refine vl (lt rfl rfl) <| nl <| thn <| sq <| ?_
 refine cdP rfl (fun hc => ?_) (fun hc => ?_)
 ·have hi' : i < ts.length := by omega
  refine sk <| thn <| sq <| bk <| sq <| rg <| ?_
  refine vl (mI rfl) <| vl (aI rfl) <| nl <| thn <| sq <| rg <| vl mv <| vl mv <| vl (mI rfl) <| vl (ixn Try.underlying26 Ty.s45 rfl hv.1 rfl om) <| vl (lsF hK Ty.a45 Ty.s45 rfl hv om) <| ?_
  refine cf (cap := cap) (hf) rfl rfl (hp ts[i] w hK) ?_
  rintro _ w ⟨rfl, hK⟩
  refine nl <| thn <| ?_
  refine cdB rfl (fun hq => ?_) (fun hq => ?_)
  ·refine sq <| rg <| ?_
   refine vl (mI rfl) <| vl (aI rfl) <| nl <| thn <| rt <| bkr <| thr <| thr <| bkr <| thr <| p1r (a := .int _ _) rfl <| ?_
   exact ⟨⟨_, rfl, .inr ⟨i, rfl, hi', hq, ha⟩⟩, hK⟩
  ·refine sk <| bkn <| thn <| rg <| ?_
   refine vl (ad rfl rfl) <| vl (mI rfl) <| nl <| thn <| ?_
   exact ⟨i + 1, ⟨rfl, rfl, rfl, rfl, trivial⟩, ⟨hi', all_take hi' ha (by simpa using hq), hK⟩, by omega⟩
 ·have hi' : i = ts.length := by omega
  subst hi'
  refine ex <| the <| the <| bkh <| thn <| sq <| rg <| ?_
  refine vl (aI rfl) <| nl <| thn <| rt <| p1r (a := .int _ _) rfl <| ?_
  rw [List.take_length] at ha
  exact ⟨⟨_, rfl, .inl ⟨rfl, ha⟩⟩, hK⟩

theorem ownerIn1_c (hK : K e w G L) (hp : cellV G ⟨bo, 0, none⟩ = some v) (hv : TokS G v ts) (hne : 0 < ts.length) : Ret Try.prog 33 #[.int .i64 key, .pointer (some ⟨bo, 0, none⟩)] w (fun r w' => r = .int .i64 (ownI ts key) ∧ K e w' G L) := by
 have hle := hv.le
 refine enter1 (args := [.int .i64 key, .pointer (some ⟨bo, 0, none⟩)]) Try.func33 rfl rfl rfl rfl ?_
 refine sq <| rg <| ?_
 refine bx hK rfl rfl ?_
 intro b2 w hK
 refine vl (aI rfl) <| nl <| thn <| sq <| rg <| vl (ldV hK Ty.o26 rfl hp) <| vl (mkf rfl) <| ?_
 refine cl Try.call34 rfl (indexFuncT_c (cap := [.pointer (some ⟨b2, 0, none⟩)]) (q := fun x => decide (key ≤ x.1)) Try.call35 hK hv (fun x w hK => ownerIn11_c hK)) ?_
 rintro _ w ⟨⟨i, rfl, hi⟩, hK⟩
 obtain ⟨hlt, hown, hge⟩ := ownI_at hne hi
 refine vl (aI rfl) <| nl <| thn <| sq <| rg <| vl (ldV hK Ty.o26 rfl hp) <| vl (mI rfl) <| vl (mx rfl rfl) <| vl (ix Try.underlying26 Ty.s45 rfl hv.1 rfl om om) <| vl (fe Try.underlying45 rfl Ty.z3 rfl hv.1 om) <| vl (ldV hK Ty.o3 rfl (hv.cell om 1 rfl)) <| vl (aI rfl) <| nl <| thn <| rt <| p1r (a := .int _ _) rfl <| ?_
 exact ⟨congrArg _ hown.symm, hK.drop1⟩

theorem ownerIn_c (hK : K e w G L) (hv : TokS G v ts) : Ret Try.prog 22 #[v] w (fun r w' => ∃ G' bo, r = .func (.func 33) #[] #[.pointer (some ⟨bo, 0, none⟩)] ∧ VLe G G' ∧ cellV G' ⟨bo, 0, none⟩ = some v ∧ K e w' G' L) := by
 refine enter1 (args := [v]) Try.func22 rfl rfl rfl rfl ?_
 refine sq <| rg <| ?_
 refine bx1 hK rfl hv.1.one ?_
 intro b1 w hK
 refine vl asg <| nl <| thn <| sq <| rg <| vl (mkf rfl) <| vl asg <| nl <| thn <| rt <| p1r (a := _) rfl <| ?_
 have hg : addV G [(b1, row [v] 26)] b1 = some (row [v] 26) := addV_mem (by simp) (List.mem_cons_self ..)
 exact ⟨_, b1, rfl, K.addV_le (A := [(b1, row [v] 26)]) hK, by unfold cellV; simp only [hg]; rfl, K.pub (A := [(b1, row [v] 26)]) hK⟩

theorem tableOk_c (hK : K e w G L) (hv : TokS G v ts) (hok : TblOk ts) : Ret Try.prog 21 #[v] w (fun r w' => r = .bool true ∧ K e w' G L) := by
 have hle := hv.le
 have hpos := hok.pos
 refine enter1 (args := [v]) Try.func21 rfl rfl rfl rfl ?_
 refine sq <| rg <| ?_
 refine vl (aB rfl) <| nl <| thn <| sq <| sq <| rg <| vl mv <| vl (ln Try.underlying26 rfl hv.len) <| vl (mI rfl) <| nl <| thn <| bk <| ?_
 refine lp (σ := Nat) (fun i => [(0, v), (5, v), (6, .int .i64 (ts.length : Int)), (7, .int .i64 (i : Int))]) (fun i w => i ≤ ts.length ∧ K e w G L) (fun i => ts.length - i) 0 ⟨rfl, rfl, rfl, rfl, trivial⟩ ⟨Nat.zero_le _, hK⟩ ?_
 rintro i g w ⟨hi, hK⟩
 refine sq <| rg <| ?_
 refine vl (lt rfl rfl) <| nl <| thn <| sq <| ?_
 refine cdP rfl (fun hc => ?_) (fun hc => ?_)
 ·have hi' : i < ts.length := by omega
  have hx := hok.pt hi'
  refine sk <| thn <| sq <| bk <| sq <| rg <| ?_
  refine vl (mI rfl) <| vl (ixn Try.underlying26 Ty.s45 rfl hv.1 rfl om) <| vl (lsF hK Ty.a45 Ty.s45 rfl hv om) <| ?_
  refine al hK Ty.i45 rfl ?_
  intro b4 w hK
  refine vl (aI rfl) <| ?_
  refine soS hK Ty.i45 0 rfl rfl rfl rfl rfl rfl ?_
  intro w hK
  refine nl <| thn <| sq <| ?_
  refine rgx (fun w => K _ w _ _) [U,U,U,U,U,U,U,U,U,U,U,U,U,U,U,U,U,U,U,U,U,U] 22 Ty.mixed rfl rfl (hK.drawn _) ?_
  intro w hK
  refine xt (i := 0) rfl kr rfl rfl (fun w hK => (fa Try.underlying45 rfl Ty.z3 rfl)) hK <| ?_; refine xt (i := 1) rfl kr rfl rfl (fun w hK => (ldO hK Ty.o3 0 rfl rfl rfl)) hK <| ?_; refine xt (i := 2) rfl kr rfl rfl (fun w hK => (fa Try.underlying45 rfl Ty.z3 rfl)) hK <| ?_; refine xt (i := 3) rfl kr rfl rfl (fun w hK => (ldO hK Ty.o3 0 rfl rfl rfl)) hK <| ?_
  refine xe (i := 4) kr rfl rfl ?_
  refine bsN [.tmp 13, .tmp 15] hK Try.underlying23 Ty.i3 rfl rfl rfl rfl rfl rfl rfl rfl ?_
  intro b16 w hK
  refine xn (fun w => K _ w _ _) hK (fun w hK => (by first | exact hK | exact K.drop1 hK)) ?_
  refine xe (i := 5) kr rfl rfl ?_
  refine cl Try.call32 rfl (positions_o (xs := [ts[i].1, ts[i].2]) hK rfl) ?_
  rintro _ w ⟨rfl, hK⟩
  refine xn (fun w => K _ w _ _) hK (fun w hK => (by first | exact hK | exact K.drop1 hK)) ?_
  refine xt (i := 6) rfl kr rfl rfl (fun w hK => (ntB rfl)) hK <| ?_; refine xt (i := 7) rfl kr rfl rfl (fun w hK => (mB rfl)) hK <| ?_
  refine xspl (t := 19) rfl (fun h1 => ?_) (fun h1 => ?_)
  ·have _ := trivial
   simp at h1
   exact absurd ⟨hx.1, hx.2⟩ (not_dec h1)
  ·refine xt (i := 8) rfl kr rfl rfl (fun w hK => (mI rfl)) hK <| ?_; refine xt (i := 9) rfl kr rfl rfl (fun w hK => (gt rfl rfl)) hK <| ?_; refine xt (i := 10) rfl kr rfl rfl (fun w hK => (mB rfl)) hK <| ?_
   refine xsplP (t := 22) rfl (fun h4 => ?_) (fun h4 => ?_)
   ·have hlt := hok.lt hi' (i := i - 1) (by omega)
    refine xt (i := 11) rfl kr rfl rfl (fun w hK => mv) hK <| ?_; refine xt (i := 12) rfl kr rfl rfl (fun w hK => (mI rfl)) hK <| ?_; refine xt (i := 13) rfl kr rfl rfl (fun w hK => (sb rfl rfl)) hK <| ?_; refine xt (i := 14) rfl kr rfl rfl (fun w hK => (ixm (m := i - 1) Try.underlying26 Ty.s45 rfl hv.1 rfl om om)) hK <| ?_; refine xt (i := 15) rfl kr rfl rfl (fun w hK => (fe Try.underlying45 rfl Ty.z3 rfl hv.1 om)) hK <| ?_; refine xt (i := 16) rfl kr rfl rfl (fun w hK => (ldV hK Ty.o3 rfl (by exact hv.cell om 0 rfl))) hK <| ?_; refine xt (i := 17) rfl kr rfl rfl (fun w hK => (fa Try.underlying45 rfl Ty.z3 rfl)) hK <| ?_; refine xt (i := 18) rfl kr rfl rfl (fun w hK => (ldO hK Ty.o3 1 rfl rfl rfl)) hK <| ?_; refine xt (i := 19) rfl kr rfl rfl (fun w hK => (ge rfl rfl)) hK <| ?_; refine xt (i := 20) rfl kr rfl rfl (fun w hK => (pk rfl)) hK <| ?_; refine xt (i := 21) rfl kr rfl rfl (fun w hK => (pk rfl)) hK <| ?_; refine xd kr <| thn <| ?_
    refine cdP rfl (fun h5 => ?_) (fun h5 => ?_)
    ·have _ := trivial
     omega
    ·refine sk <| bkn <| thn <| rg <| ?_
     refine vl (ad rfl rfl) <| vl (mI rfl) <| nl <| thn <| ?_
     exact ⟨i + 1, ⟨rfl, rfl, rfl, rfl, trivial⟩, ⟨hi', hK.drop1.drop1⟩, by omega⟩
   ·refine xu (i := 11) rfl kr rfl rfl hK <| xu (i := 12) rfl kr rfl rfl hK <| xu (i := 13) rfl kr rfl rfl hK <| xu (i := 14) rfl kr rfl rfl hK <| xu (i := 15) rfl kr rfl rfl hK <| xu (i := 16) rfl kr rfl rfl hK <| xu (i := 17) rfl kr rfl rfl hK <| xu (i := 18) rfl kr rfl rfl hK <| xu (i := 19) rfl kr rfl rfl hK <| xt (i := 20) rfl kr rfl rfl (fun w hK => (pk rfl)) hK <| ?_; refine xt (i := 21) rfl kr rfl rfl (fun w hK => (pk rfl)) hK <| ?_; refine xd kr <| thn <| ?_
    refine cdf rfl ?_
    refine sk <| bkn <| thn <| rg <| ?_
    refine vl (ad rfl rfl) <| vl (mI rfl) <| nl <| thn <| ?_
    exact ⟨i + 1, ⟨rfl, rfl, rfl, rfl, trivial⟩, ⟨hi', hK.drop1.drop1⟩, by omega⟩
 ·refine ex <| the <| the <| bkh <| thn <| sq <| rg <| ?_
  refine vl mv <| vl (ln Try.underlying26 rfl hv.len) <| vl (gt rfl rfl) <| vl (aB rfl) <| nl <| thn <| rt <| p1r (a := .bool _) rfl <| ?_
  exact ⟨congrArg Value.bool (decide_eq_true (by omega)), hK⟩

theorem PlaceOwner_c (hK : K e w G L) (hv : TokS G v ts) (hok : TblOk ts) (hk : Pt key) : Ret Try.prog 10 #[v, .int .i64 key] w (fun r w' => r = .int .i64 (ownI ts key) ∧ K e w' G L) := by
 refine enter1 (args := [v, .int .i64 key]) Try.func10 rfl rfl rfl rfl ?_
 refine sq <| rg <| ?_
 refine vl (aI rfl) <| nl <| thn <| sq <| sq <| rg <| vl mv <| ?_
 refine cl Try.call21 rfl (tableOk_c hK hv hok) ?_
 rintro _ w ⟨rfl, hK⟩
 refine vl (ntB rfl) <| vl (mB rfl) <| gy rfl <| vl (mI rfl) <| gy rfl <| ?_
 refine cl Try.call23 rfl (posok_c (C := fun w => K _ w _ _) hK) ?_
 rintro _ w ⟨rfl, hK⟩
 refine gy rfl <| vl (nt rfl) <| vl (pk rfl) <| nl <| thn <| ?_
 refine cdP rfl (fun h1 => ?_) (fun h1 => ?_)
 ·have _ := trivial
  exact absurd hk h1
 ·refine sk <| thn <| sq <| rg <| ?_
  refine vl mv <| ?_
  refine cl Try.call22 rfl (ownerIn_c hK hv) ?_
  rintro _ w ⟨G1, bo, rfl, hG1, hp, hK⟩
  refine vl (mI rfl) <| ?_
  refine cf (cap := [.pointer (some ⟨bo, 0, none⟩)]) (Try.call33) rfl rfl (ownerIn1_c hK hp (hv.mono hG1) hok.pos) ?_
  rintro _ w ⟨rfl, hK⟩
  refine vl (aI rfl) <| nl <| thn <| rt <| p1r (a := .int _ _) rfl <| ?_
  exact ⟨rfl, K.vle hK hG1⟩

theorem PlaceLoad_c (hK : K e w G L) (hv : TokS G v ts) (hok : TblOk ts) (hn : Pt n) : Ret Try.prog 11 #[v, .int .i64 n] w (fun r w' => r = .int .i64 ((ps64.filter fun key => decide (ownI ts key = n)).length : Int) ∧ K e w' G L) := by
 refine enter1 (args := [v, .int .i64 n]) Try.func11 rfl rfl rfl rfl ?_
 refine sq <| rg <| ?_
 refine vl (aI rfl) <| nl <| thn <| sq <| sq <| rg <| vl mv <| ?_
 refine cl Try.call21 rfl (tableOk_c hK hv hok) ?_
 rintro _ w ⟨rfl, hK⟩
 refine vl (ntB rfl) <| vl (mB rfl) <| gy rfl <| vl (mI rfl) <| gy rfl <| ?_
 refine cl Try.call23 rfl (posok_c (C := fun w => K _ w _ _) hK) ?_
 rintro _ w ⟨rfl, hK⟩
 refine gy rfl <| vl (nt rfl) <| vl (pk rfl) <| nl <| thn <| ?_
 refine cdP rfl (fun h1 => ?_) (fun h1 => ?_)
 ·have _ := trivial
  exact absurd hn h1
 ·refine sk <| thn <| sq <| rg <| ?_
  refine vl mv <| ?_
  refine cl Try.call22 rfl (ownerIn_c hK hv) ?_
  rintro _ w ⟨G1, bo, rfl, hG1, hp, hK⟩
  refine vl asg <| vl (aI rfl) <| nl <| thn <| sq <| sq <| rg <| vl (mI rfl) <| nl <| thn <| bk <| ?_
  refine lp (σ := Nat) (fun i => [(0, v), (1, .int .i64 n), (5, .func (.func 33) #[] #[.pointer (some ⟨bo, 0, none⟩)]), (6, .int .i64 (((psTo i).filter fun key => decide (ownI ts key = n)).length : Int)), (18, .int .i64 (i : Int))]) (fun i w => i ≤ 64 ∧ K e w G1 L) (fun i => 64 - i) 0 ⟨rfl, rfl, rfl, rfl, rfl, trivial⟩ ⟨Nat.zero_le _, hK⟩ ?_
  rintro i g w ⟨hi, hK⟩
  have hfl := psf_len (fun key => decide (ownI ts key = n)) i
  refine sq <| rg <| ?_
  refine vl (lt rfl rfl) <| nl <| thn <| sq <| ?_
  refine cdP rfl (fun hc => ?_) (fun hc => ?_)
  ·refine sk <| thn <| sq <| bk <| sq <| rg <| ?_
   refine vl (mI rfl) <| vl (aI rfl) <| nl <| thn <| sq <| rg <| vl mv <| vl (mI rfl) <| ?_
   refine cf (cap := [.pointer (some ⟨bo, 0, none⟩)]) (Try.call33) rfl rfl (ownerIn1_c hK hp (hv.mono hG1) hok.pos) ?_
   rintro _ w ⟨rfl, hK⟩
   refine vl (mI rfl) <| vl (eq rfl rfl) <| nl <| thn <| ?_
   refine cdP rfl (fun h2 => ?_) (fun h2 => ?_)
   ·have hs := psf_t (q := fun key => decide (ownI ts key = n)) (i := i) (decide_eq_true h2)
    refine rg <| ?_
    refine vl (mI rfl) <| vl (ad rfl rfl) <| vl (aI rfl) <| nl <| bkn <| thn <| rg <| vl (ad rfl rfl) <| vl (mI rfl) <| nl <| thn <| ?_
    exact ⟨i + 1, ⟨rfl, rfl, rfl, congrArg (Value.int .i64) (by rw [hs, List.length_append, List.length_singleton, Int.natCast_add]; rfl), rfl, trivial⟩, ⟨by omega, hK⟩, by omega⟩
   ·have hs := psf_f (q := fun key => decide (ownI ts key = n)) (i := i) (decide_eq_false h2)
    refine sk <| bkn <| thn <| rg <| ?_
    refine vl (ad rfl rfl) <| vl (mI rfl) <| nl <| thn <| ?_
    exact ⟨i + 1, ⟨rfl, rfl, rfl, congrArg (Value.int .i64) (by rw [hs]), rfl, trivial⟩, ⟨by omega, hK⟩, by omega⟩
  ·have hi' : i = 64 := by omega
   subst hi'
   refine ex <| the <| the <| bkh <| thn <| sq <| rg <| ?_
   refine vl (mI rfl) <| vl (aI rfl) <| nl <| thn <| rt <| p1r (a := .int _ _) rfl <| ?_
   exact ⟨rfl, K.vle hK hG1⟩

theorem PlaceMoved_c (hK : K e w G L) (hv : TokS G v ts) (hu : TokS G u us) (hok : TblOk ts) (hok2 : TblOk us) : Ret Try.prog 9 #[v, u] w (fun r w' => ∃ G', VLe G G' ∧ IntS G' r (ps64.filter fun key => decide (ownI ts key ≠ ownI us key)) ∧ K e w' G' L) := by
 refine enter1 (args := [v, u]) Try.func9 rfl rfl rfl rfl ?_
 refine sq <| rg <| ?_
 refine vl asg <| nl <| thn <| sq <| sq <| rg <| vl mv <| ?_
 refine cl Try.call21 rfl (tableOk_c hK hv hok) ?_
 rintro _ w ⟨rfl, hK⟩
 refine vl (ntB rfl) <| vl (mB rfl) <| gy rfl <| vl mv <| gy rfl <| ?_
 refine cl Try.call21 rfl (tableOk_c hK hu hok2) ?_
 rintro _ w ⟨rfl, hK⟩
 refine gy rfl <| vl (ntB rfl) <| vl (pk rfl) <| nl <| thn <| ?_
 refine cdf rfl ?_
 refine sk <| thn <| sq <| rg <| ?_
 refine vl mv <| ?_
 refine cl Try.call22 rfl (ownerIn_c hK hv) ?_
 rintro _ w ⟨G1, bo, rfl, hG1, hp, hK⟩
 refine vl mv <| ?_
 refine cl Try.call22 rfl (ownerIn_c hK (hu.mono hG1)) ?_
 rintro _ w ⟨G2, bj, rfl, hG2, hp2, hK⟩
 have hG := hG1.trans hG2
 replace hp := cellV.mono hG2 hp
 refine vl asg <| vl asg <| nl <| thn <| sq <| rg <| vl asg <| nl <| thn <| sq <| sq <| rg <| vl (mI rfl) <| nl <| thn <| ?_
 refine bk <| ?_
 refine lp (σ := Nat × Value × Own) (fun s => [(5, .func (.func 33) #[] #[.pointer (some ⟨bo, 0, none⟩)]), (6, .func (.func 33) #[] #[.pointer (some ⟨bj, 0, none⟩)]), (7, s.2.1), (21, .int .i64 (s.1 : Int))]) (fun s w => s.1 ≤ 64 ∧ OS 1 3 s.2.1 ((psTo s.1).filter fun key => decide (ownI ts key ≠ ownI us key)).length (ints ((psTo s.1).filter fun key => decide (ownI ts key ≠ ownI us key))) s.2.2 ∧ K e w G2 (s.2.2 ++ L)) (fun s => 64 - s.1) (0, .slice none 0 0, []) ⟨rfl, rfl, rfl, rfl, trivial⟩ ⟨Nat.zero_le _, OS.nil _ _, hK⟩ ?_
 rintro ⟨i, x, A⟩ g w ⟨hi, ho, hK⟩
 simp only at hi ho hK
 have hfl := psf_len (fun key => decide (ownI ts key ≠ ownI us key)) i
 refine sq <| rg <| ?_
 refine vl (lt rfl rfl) <| nl <| thn <| sq <| ?_
 refine cdP rfl (fun hc => ?_) (fun hc => ?_)
 ·have hi' : i < 64 := by simp only at hc; omega
  refine sk <| thn <| sq <| bk <| sq <| rg <| ?_
  refine vl (mI rfl) <| vl (aI rfl) <| nl <| thn <| sq <| rg <| vl mv <| vl (mI rfl) <| ?_
  refine cf (cap := [.pointer (some ⟨bo, 0, none⟩)]) (Try.call33) rfl rfl (ownerIn1_c hK hp (hv.mono hG) hok.pos) ?_
  rintro _ w ⟨rfl, hK⟩
  refine vl mv <| vl (mI rfl) <| ?_
  refine cf (cap := [.pointer (some ⟨bj, 0, none⟩)]) (Try.call33) rfl rfl (ownerIn1_c hK hp2 (hu.mono hG) hok2.pos) ?_
  rintro _ w ⟨rfl, hK⟩
  refine vl (ne rfl rfl) <| nl <| thn <| ?_
  refine cdP rfl (fun h2 => ?_) (fun h2 => ?_)
  ·have hs := psf_t (q := fun key => decide (ownI ts key ≠ ownI us key)) (i := i) (decide_eq_true h2)
   refine rg <| ?_
   refine vl mv <| vl (mI rfl) <| ?_
   refine bsN [.tmp 32] hK Try.underlying23 Ty.i3 rfl rfl rfl rfl rfl rfl rfl rfl ?_
   intro b33 w hK
   refine apI1 hK Try.underlying23 Ty.i3 rfl rfl ho rfl om fun v' A' w ho hK => ?_
   refine vl asg <| nl <| bkn <| thn <| rg <| vl (ad rfl rfl) <| vl (mI rfl) <| nl <| thn <| ?_
   rw [← hs] at ho
   exact ⟨(i + 1, v', A'), ⟨rfl, rfl, rfl, rfl, trivial⟩, ⟨hi', ho, hK⟩, by simp only; omega⟩
  ·have hs := psf_f (q := fun key => decide (ownI ts key ≠ ownI us key)) (i := i) (decide_eq_false h2)
   rw [← hs] at ho
   refine sk <| bkn <| thn <| rg <| ?_
   refine vl (ad rfl rfl) <| vl (mI rfl) <| nl <| thn <| ?_
   exact ⟨(i + 1, x, A), ⟨rfl, rfl, rfl, rfl, trivial⟩, ⟨hi', ho, hK⟩, by simp only; omega⟩
 ·have hi' : i = 64 := by simp only at hc; omega
  subst hi'
  refine ex <| the <| the <| bkh <| thn <| sq <| rg <| ?_
  refine vl mv <| vl asg <| nl <| thn <| rt <| p1r (a := _) rfl <| ?_
  obtain ⟨G3, hG3, hx, hK⟩ := hK.pubO ho
  exact ⟨G3, hG.trans hG3, hx, hK⟩
end
end Go.Proofs.Ytlpefeeadeocgaa
