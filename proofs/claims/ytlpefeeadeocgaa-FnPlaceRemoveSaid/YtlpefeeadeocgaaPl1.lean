/- Contracts of the tables of tokens: drawing, tokens, comparing. Conditions: those that each row states. -/
import Derived.Test.YtlpefeeadeocgaaDn
import Derived.Test.YtlpefeeadeocgaaPlcN
namespace Go.Proofs.Ytlpefeeadeocgaa
open Go Go.Ro

section
variable {e w : World} {G : View} {L A : Own} {v u cva : Value} {code xs ys ns ws : List Int} {ts us : List (Int × Int)} {a b k n wt p : Int} {i j bk o rb : Nat}

theorem l31Token_c {C : World → Prop} (hK : C w) (hn : Pt n) (h0 : 0 ≤ k) (h1 : k ≤ 10) : Ret Try.prog 20 #[.int .i64 n, .int .i64 k] w (fun r w' => r = .int .i64 (tkn n k) ∧ C w') := by
 have hs := sq7 h0 h1
 refine enter1 (args := [.int .i64 n, .int .i64 k]) Try.func20 rfl rfl rfl rfl ?_
 refine sq <| rg <| ?_
 refine vl (aI rfl) <| nl <| thn <| sq <| rg <| vl (mI rfl) <| vl (ml rfl rfl) <| vl (mI rfl) <| vl (ml rfl rfl) <| vl (ad rfl rfl) <| vl (mI rfl) <| vl (ml rfl rfl) <| vl (mI rfl) <| vl (ml rfl rfl) <| vl (ad rfl rfl) <| vl (rm rfl rfl) <| vl (aI rfl) <| nl <| thn <| ?_
 refine rt <| p1r (a := .int _ _) rfl <| ?_
 exact ⟨rfl, hK⟩

theorem TokensOf_c (hK : K e w G L) : Ret Try.prog 15 #[.int .i64 n, .int .i64 wt] w (fun r w' => ∃ A, OS 1 3 r (tkO n wt).length (ints (tkO n wt)) A ∧ K e w' G (A ++ L)) := by
 refine enter1 (args := [.int .i64 n, .int .i64 wt]) Try.func15 rfl rfl rfl rfl ?_
 refine sq <| rg <| ?_
 refine vl asg <| nl <| thn <| sq <| sq <| rg <| vl (mI rfl) <| ?_
 refine cl Try.call23 rfl (posok_c (C := fun w => K _ w _ _) hK) ?_
 rintro _ w ⟨rfl, hK⟩
 refine vl (nt rfl) <| vl (mB rfl) <| ?_
 refine splP (t := 10) rfl (fun h1 => ?_) (fun h1 => ?_)
 ·refine gn rfl <| gn rfl <| gn rfl <| vl (pk rfl) <| nl <| thn <| ?_
  refine cdt rfl ?_
  refine sq <| rg <| ?_
  refine vl asg <| nl <| thn <| rt <| thr <| p1r (a := _) rfl <| ?_
  exact ⟨[], by rw [show tkO n wt = [] by unfold tkO; rw [dec_f (fun h => h1 h.1)]; rfl]; exact OS.nil _ _, hK⟩
 ·have h1' : Pt n := Decidable.not_not.1 h1
  refine gy rfl <| vl (mI rfl) <| gy rfl <| ?_
  refine cl Try.call26 rfl (inRange_c (C := fun w => K _ w _ _) hK) ?_
  rintro _ w ⟨rfl, hK⟩
  refine gy rfl <| vl (nt rfl) <| vl (pk rfl) <| nl <| thn <| ?_
  refine cdP rfl (fun h2 => ?_) (fun h2 => ?_)
  ·refine sq <| rg <| ?_
   refine vl asg <| nl <| thn <| rt <| thr <| p1r (a := _) rfl <| ?_
   exact ⟨[], by rw [show tkO n wt = [] by unfold tkO; rw [dec_f (fun h => h2 h.2)]; rfl]; exact OS.nil _ _, hK⟩
  ·have h2' : 1 ≤ wt ∧ wt ≤ 5 := Decidable.not_not.1 h2
   have hto : tkO n wt = toks n wt := by unfold tkO; rw [dec_t ⟨h1', h2'⟩]; rfl
   rw [hto]
   refine sk <| thn <| sq <| rg <| ?_
   refine vl asg <| nl <| thn <| sq <| sq <| rg <| vl (mI rfl) <| vl (mI rfl) <| nl <| thn <| bk <| ?_
   refine lp (σ := Nat × Value × Own) (fun s => [(0, .int .i64 n), (1, .int .i64 wt), (5, s.2.1), (15, .int .i64 wt), (16, .int .i64 (s.1 : Int))]) (fun s w => (s.1 : Int) ≤ wt ∧ OS 1 3 s.2.1 (toks n (s.1 : Int)).length (ints (toks n (s.1 : Int))) s.2.2 ∧ K e w G (s.2.2 ++ L)) (fun s => 5 - s.1) (0, .slice none 0 0, []) ⟨rfl, rfl, rfl, rfl, rfl, trivial⟩ ⟨by simp only; omega, OS.nil _ _, hK⟩ ?_
   rintro ⟨i, u, A⟩ g w ⟨hi, ho, hK⟩
   simp only at hi ho hK
   refine sq <| rg <| ?_
   refine vl (lt rfl rfl) <| nl <| thn <| sq <| ?_
   refine cdP rfl (fun hc => ?_) (fun hc => ?_)
   ·have hi' : (i : Int) < wt := by simp only at hc; omega
    have hs := sq7 (i := (i : Int)) (by omega) (by omega)
    have hl := toks_len n (i : Int)
    refine sk <| thn <| sq <| bk <| sq <| rg <| ?_
    refine vl (mI rfl) <| vl (aI rfl) <| nl <| thn <| rg <| vl mv <| vl (mI rfl) <| vl (ml rfl rfl) <| vl (mI rfl) <| vl (ml rfl rfl) <| vl (ad rfl rfl) <| vl (mI rfl) <| vl (ml rfl rfl) <| vl (mI rfl) <| vl (ml rfl rfl) <| vl (ad rfl rfl) <| vl (rm rfl rfl) <| ?_
    refine bsN [.tmp 30] hK Try.underlying23 Ty.i3 rfl rfl rfl rfl rfl rfl rfl rfl ?_
    intro b31 w hK
    refine apI1 (k := tkn n (i : Int)) hK Try.underlying23 Ty.i3 rfl rfl ho rfl om fun v' A' w ho hK => ?_
    refine vl asg <| nl <| bkn <| thn <| rg <| vl (ad rfl rfl) <| vl (mI rfl) <| nl <| thn <| ?_
    rw [toks_succ] at ho
    exact ⟨(i + 1, v', A'), ⟨rfl, rfl, rfl, rfl, rfl, trivial⟩, ⟨by simp only; omega, ho, hK⟩, by simp only; omega⟩
   ·have hi' : wt = (i : Int) := by simp only at hc; omega
    subst hi'
    refine ex <| the <| the <| bkh <| thn <| sq <| rg <| ?_
    refine vl mv <| vl asg <| nl <| thn <| rt <| p1r (a := _) rfl <| ?_
    exact ⟨A, ho, hK⟩

theorem without_c (hK : K e w G L) (hv : IntS G v xs) (hi : i < xs.length) (hl : xs.length ≤ 1000) : Ret Try.prog 8 #[v, .int .i64 (i : Int)] w (fun r w' => ∃ G', VLe G G' ∧ IntS G' r (xs.eraseIdx i) ∧ K e w' G' L) := by
 refine enter1 (args := [v, .int .i64 (i : Int)]) Try.func8 rfl rfl rfl rfl ?_
 refine sq <| rg <| ?_
 refine vl asg <| nl <| thn <| sq <| ?_
 refine rgs (fun w => K e w G L) (fun w => K _ w _ _) [U,U,U,U,U,U,U,U,U,U,U] 11 Ty.mixed rfl rfl (hK.drawn _) ?_
 intro w hK
 have hS : (fun w => K e w G L) w := K.sl hK
 refine xt (i := 1) rfl kr rfl rfl (fun w hK => mv) hS <| ?_; refine xt (i := 2) rfl kr rfl rfl (fun w hK => (mI rfl)) hS <| ?_; refine xt (i := 3) rfl kr rfl rfl (fun w hK => (slHi (h := i) Try.underlying23 Ty.s3 rfl hv.1 rfl om)) hS <| ?_; refine xt (i := 5) rfl kr rfl rfl (fun w hK => mv) hS <| ?_; refine xt (i := 6) rfl kr rfl rfl (fun w hK => (mI rfl)) hS <| ?_; refine xt (i := 7) rfl kr rfl rfl (fun w hK => (ad rfl rfl)) hS <| ?_; refine xt (i := 8) rfl kr rfl rfl (fun w hK => (slLo (l := i + 1) Try.underlying23 Ty.s3 rfl hv.1 rfl om)) hS <| ?_
 refine xe (i := 0) kr rfl rfl ?_
 refine bs0 hK Try.underlying23 Ty.i3 ?_
 intro b5 w hK
 refine xnk (K.sl hK) fun hS => ?_
 refine xe (i := 4) kr rfl rfl ?_
 refine apI (A := [(b5, row [] 3)]) (xs := []) hK Try.underlying23 Ty.i3 rfl rfl OS.none rfl (hv.slc (Nat.zero_le _) om) (by simp; omega) fun v1 A1 w ho1 hK => ?_
 refine xnk ((K.dropL hK)) fun hS => ?_
 refine xe (i := 9) kr rfl rfl ?_
 refine apI hK Try.underlying23 Ty.i3 rfl rfl ho1 rfl (hv.slc om (Nat.le_refl _)) (by simp; omega) fun v2 A2 w ho2 hK => ?_
 refine xnk ((K.dropL hK)) fun hS => ?_
 refine xt (i := 10) rfl kr rfl rfl (fun w hK => asg) hS <| ?_; refine xd kr <| thn <| rt <| p1r (a := _) rfl <| ?_
 have he : ([] ++ (xs.take i).drop 0 ++ (xs.take xs.length).drop (i + 1)) = xs.eraseIdx i := by rw [List.drop_zero, List.nil_append, List.take_length, List.eraseIdx_eq_take_drop_succ]
 rw [he] at ho2
 obtain ⟨G', hG, hx, hK⟩ := hK.pubO ho2
 exact ⟨G', hG, hx, hK⟩

theorem l92Place_c (hK : K e w G ((rb, row [cva, .int .i64 p] 55) :: L)) (hcode : BytS G cva code) (hlen : code.length ≤ 2000) (h0 : 0 ≤ p) (h1 : p ≤ 700000000) :
  Ret Try.prog 12 #[.pointer (some ⟨rb, 0, none⟩)] w (fun r w' => ∃ G' v u ns ws, r = .tuple #[v, u] ∧ VLe G G' ∧ IntS G' v ns ∧ IntS G' u ws ∧ ns.length ≤ 20 ∧ ws.length ≤ 21 ∧ K e w' G' L) := by
 refine enter2 (args := [.pointer (some ⟨rb, 0, none⟩)]) Try.func12 rfl rfl rfl rfl ?_
 refine sq <| rg <| ?_
 refine vl asg <| vl asg <| nl <| thn <| sq <| rg <| vl mv <| ?_
 refine cl Try.call24 rfl (l91Nodes_c hK hcode hlen om om) ?_
 rintro v w ⟨G1, ns, p1, hG1, hx, hl, hp1, hp2, hK⟩
 replace hcode := hcode.mono hG1
 refine vl asg <| nl <| thn <| sq <| rg <| ?_
 refine bs0 hK Try.underlying23 Ty.i3 ?_
 intro b9 w hK
 refine vl asg <| nl <| thn <| sq <| sq <| rg <| vl (aI rfl) <| nl <| thn <| bk <| ?_
 replace hK := K.mid (A := [(b9, _)]) (B := [_]) hK
 refine lp (σ := Nat × Value × List Int × Own) (fun s => [(0, .pointer (some ⟨rb, 0, none⟩)), (4, v), (5, s.2.1), (6, .int .i64 (s.1 : Int))]) (fun s w => s.1 ≤ ns.length ∧ s.2.2.1.length = s.1 ∧ OS 1 3 s.2.1 s.2.2.1.length (ints s.2.2.1) s.2.2.2 ∧ K e w G1 ((rb, row [cva, .int .i64 (p1 + (s.1 : Int))] 55) :: (s.2.2.2 ++ L))) (fun s => ns.length - s.1) (0, .slice (some ⟨b9, 0, none⟩) 0 0, [], [(b9, row [] 3)]) ⟨rfl, rfl, rfl, rfl, trivial⟩ ⟨Nat.zero_le _, rfl, OS.none, by simpa using hK⟩ ?_
 rintro ⟨i, u, ws, A⟩ g w ⟨hi, hwl, ho, hK⟩
 simp only at hi hwl ho hK
 refine sq <| sq <| rg <| ?_
 refine vl (mI rfl) <| vl mv <| vl (ln Try.underlying23 rfl hx.len) <| vl (lt rfl rfl) <| nl <| thn <| ?_
 refine cdP rfl (fun hc => ?_) (fun hc => ?_)
 ·have hi' : i < ns.length := by simp only at hc; omega
  refine sk <| thn <| sq <| bk <| rg <| ?_
  refine vl mv <| vl mv <| ?_
  refine cl Try.call25 rfl (pickN_c hK hcode hlen om om om) ?_
  rintro _ w ⟨⟨k18, rfl, hk18, hkn18⟩, hK⟩
  refine vl (ad rfl rfl) <| ?_
  refine bsN [.tmp 19] hK Try.underlying23 Ty.i3 rfl rfl rfl rfl rfl rfl rfl rfl ?_
  intro b20 w hK
  replace hK := K.midc (A := [_]) hK
  refine apI1 hK Try.underlying23 Ty.i3 rfl rfl ho rfl om fun v' A' w ho hK => ?_
  replace hK := K.mid (B := [_]) hK
  refine vl asg <| nl <| bkn <| thn <| rg <| vl (mI rfl) <| vl (ad rfl rfl) <| vl (aI rfl) <| nl <| thn <| ?_
  exact ⟨(i + 1, v', _, A'), ⟨rfl, rfl, rfl, rfl, trivial⟩, ⟨hi', by simp [hwl], ho, by simpa [Int.add_assoc] using hK⟩, by simp only; omega⟩
 ·have hi' : i = ns.length := by simp only at hc; omega
  subst hi'
  refine ex <| the <| the <| bkh <| thn <| sq <| sq <| rg <| ?_
  refine vl mv <| ?_
  refine cl Try.call25 rfl (pickN_c hK hcode hlen om om om) ?_
  rintro _ w ⟨⟨k23, rfl, hk23, hkn23⟩, hK⟩
  refine vl (eq rfl rfl) <| nl <| thn <| ?_
  refine ct (σ := Value × List Int × Own × Int) (fun s => [(0, .pointer (some ⟨rb, 0, none⟩)), (4, v), (5, s.1)]) (fun s w => s.2.1.length ≤ 21 ∧ OS 1 3 s.1 s.2.1.length (ints s.2.1) s.2.2.1 ∧ (p ≤ s.2.2.2 ∧ s.2.2.2 ≤ p + 100) ∧ K e w G1 ((rb, row [cva, .int .i64 s.2.2.2] 55) :: (s.2.2.1 ++ L))) ?_ ?_
  ·skip
   refine cdP rfl (fun hx1 => ?_) (fun hx1 => ?_)
   ·refine rg <| ?_
    refine vl mv <| vl mv <| ?_
    refine cl Try.call25 rfl (pickN_c hK hcode hlen om om om) ?_
    rintro _ w ⟨⟨k27, rfl, hk27, hkn27⟩, hK⟩
    refine bsN [.tmp 27] hK Try.underlying23 Ty.i3 rfl rfl rfl rfl rfl rfl rfl rfl ?_
    intro b28 w hK
    replace hK := K.midc (A := [_]) hK
    refine apI1 hK Try.underlying23 Ty.i3 rfl rfl ho rfl om fun v' A' w ho hK => ?_
    replace hK := K.mid (B := [_]) hK
    refine vl asg <| nl <| ctn <| ?_
    exact ⟨(v', _, A', _), ⟨rfl, rfl, rfl, trivial⟩, by simp [hwl]; omega, ho, ⟨by simp only; omega, by simp only; omega⟩, hK⟩
   ·refine sk <| ctn <| ?_
    exact ⟨(u, ws, A, _), ⟨rfl, rfl, rfl, trivial⟩, by simp only; omega, ho, ⟨by simp only; omega, by simp only; omega⟩, hK⟩
  ·rintro ⟨u, ws, A, q⟩ g w ⟨hwl, ho, ⟨hq1, hq2⟩, hK⟩
   simp only at hwl ho hq1 hq2 hK
   refine thn <| sq <| sq <| rg <| ?_
   refine vl mv <| ?_
   refine cl Try.call25 rfl (pickN_c hK hcode hlen om om om) ?_
   rintro _ w ⟨⟨k31, rfl, hk31, hkn31⟩, hK⟩
   refine vl (eq rfl rfl) <| vl (mB rfl) <| ?_
   refine splP (t := 33) rfl (fun h3 => ?_) (fun h3 => ?_)
   ·refine gy rfl <| vl mv <| gy rfl <| vl (ln Try.underlying23 rfl ho.len) <| gy rfl <| vl (gt rfl rfl) <| vl (pk rfl) <| nl <| thn <| ?_
    refine ct (σ := Value × List Int × Own × Int) (fun s => [(0, .pointer (some ⟨rb, 0, none⟩)), (4, v), (5, s.1)]) (fun s w => s.2.1.length ≤ 21 ∧ OS 1 3 s.1 s.2.1.length (ints s.2.1) s.2.2.1 ∧ K e w G1 ((rb, row [cva, .int .i64 s.2.2.2] 55) :: (s.2.2.1 ++ L))) ?_ ?_
    ·skip
     refine cdP rfl (fun h4 => ?_) (fun h4 => ?_)
     ·skip
      refine rg <| ?_
      refine vl mv <| vl mv <| vl mv <| vl (ln Try.underlying23 rfl ho.len) <| ?_
      refine cl Try.call25 rfl (pickN_c hK hcode hlen om om om) ?_
      rintro _ w ⟨⟨k42, rfl, hk42, hkn42⟩, hK⟩
      refine vl mv <| ?_
      refine cl Try.call25 rfl (pickN_c hK hcode hlen om om om) ?_
      rintro _ w ⟨⟨k44, rfl, hk44, hkn44⟩, hK⟩
      refine vl (ml rfl rfl) <| vl (ix1 Try.underlying23 Ty.s3 rfl ho.slw rfl om om) <| ?_
      refine osSetC (i := k42.toNat) (u := .int .i64 (k44 * 6)) (K.mid (A := [_]) (B := A) hK) ho om Ty.i3 rfl rfl rfl rfl fun A2 w ho2 hK => ?_
      rw [ints_set] at ho2
      refine nl <| ctn <| ?_
      exact ⟨(u, ws.set k42.toNat (k44 * 6), A2, q + 1 + 1 + 1), ⟨rfl, rfl, rfl, trivial⟩, by simp only [List.length_set]; omega, by simp only [List.length_set]; exact ho2, K.mid (A := A2) (B := [_]) hK⟩
     ·refine sk <| ctn <| ?_
      exact ⟨(u, ws, A, q + 1), ⟨rfl, rfl, rfl, trivial⟩, by simp only; omega, ho, hK⟩
    ·rintro ⟨u, ws, A, q⟩ g w ⟨hwl, ho, hK⟩
     simp only at hwl ho hK
     refine thn <| sq <| rg <| ?_
     refine vl mv <| vl mv <| vl asg <| vl asg <| nl <| thn <| rt <| p2r (a := _) (b := _) rfl rfl <| ?_
     obtain ⟨G2, hG2, hw, hK⟩ := K.pubO hK.drop1 ho
     exact ⟨G2, _, _, ns, ws, rfl, hG1.trans hG2, hx.mono hG2, hw, hl, hwl, hK⟩
   ·refine gn rfl <| gn rfl <| gn rfl <| vl (pk rfl) <| nl <| thn <| ?_
    refine cdf rfl ?_
    refine sk <| thn <| sq <| rg <| ?_
    refine vl mv <| vl mv <| vl asg <| vl asg <| nl <| thn <| rt <| p2r (a := _) (b := _) rfl rfl <| ?_
    obtain ⟨G2, hG2, hw, hK⟩ := K.pubO hK.drop1 ho
    exact ⟨G2, _, _, ns, ws, rfl, hG1.trans hG2, hx.mono hG2, hw, hl, hwl, hK⟩

theorem DrawPlaceTable_c (hK : K e w G L) (hc : BytS G cva code) : Ret Try.prog 4 #[cva] w (fun r w' => ∃ G' v u ns ws, r = .tuple #[v, u] ∧ VLe G G' ∧ IntS G' v ns ∧ IntS G' u ws ∧ ns.length ≤ 20 ∧ ws.length ≤ 21 ∧ K e w' G' L) := by
 refine enter2 (args := [cva]) Try.func4 rfl rfl rfl rfl ?_
 refine sq <| rg <| ?_
 refine vl asg <| vl asg <| nl <| thn <| sq <| rg <| vl mv <| ?_
 refine cl Try.call13 rfl (l6Open_c hK hc) ?_
 rintro _ w ⟨rb, cvb, cod, rfl, hcode, hlen, hK⟩
 refine cl Try.call12 rfl (l92Place_c hK hcode hlen om om) ?_
 rintro _ w ⟨G1, v, u, ns, ws, rfl, hG1, hv, hu, hl1, hl2, hK⟩
 refine vl (ext rfl rfl) <| vl (ext rfl rfl) <| vl asg <| vl asg <| nl <| thn <| rt <| p2r (a := _) (b := _) rfl rfl <| ?_
 exact ⟨G1, v, u, ns, ws, rfl, hG1, hv, hu, hl1, hl2, hK⟩

theorem sameTokens_c (hK : K e w G L) (hv : TokS G v ts) (hu : TokS G u us) : Ret Try.prog 7 #[v, u] w (fun r w' => r = .bool (dec (ts = us)) ∧ K e w' G L) := by
 have hle := hv.le
 refine enter1 (args := [v, u]) Try.func7 rfl rfl rfl rfl ?_
 refine sq <| rg <| ?_
 refine vl (aB rfl) <| nl <| thn <| sq <| sq <| rg <| vl mv <| vl (ln Try.underlying26 rfl hv.len) <| vl mv <| vl (ln Try.underlying26 rfl hu.len) <| vl (ne rfl rfl) <| nl <| thn <| ?_
 refine cdP rfl (fun h0 => ?_) (fun h0 => ?_)
 ·refine sq <| rg <| ?_
  refine vl (aB rfl) <| nl <| thn <| rt <| thr <| p1r (a := .bool _) rfl <| ?_
  exact ⟨by rw [dec_f fun h => h0 (by have := congrArg List.length h; omega)], hK⟩
 ·have hln : ts.length = us.length := by omega
  refine sk <| thn <| sq <| sq <| rg <| ?_
  refine vl (aI rfl) <| nl <| thn <| bk <| ?_
  refine lp (σ := Nat) (fun i => [(0, v), (1, u), (5, .int .i64 (i : Int))]) (fun i w => i ≤ ts.length ∧ ts.take i = us.take i ∧ K e w G L) (fun i => ts.length - i) 0 ⟨rfl, rfl, rfl, trivial⟩ ⟨Nat.zero_le _, rfl, hK⟩ ?_
  rintro i g w ⟨hi, ha, hK⟩
  refine sq <| sq <| rg <| ?_
  refine vl (mI rfl) <| vl mv <| vl (ln Try.underlying26 rfl hv.len) <| vl (lt rfl rfl) <| nl <| thn <| ?_
  refine cdP rfl (fun hc => ?_) (fun hc => ?_)
  ·have hi' : i < ts.length := by omega
   have hi2 : i < us.length := by omega
   refine sk <| thn <| sq <| bk <| sq <| ?_
   refine rgq (fun w => K _ w _ _) Ty.mixed kr (hK.drawn _) ?_
   refine qv (fun w hK => mv) <| ?_; refine qv (fun w hK => (mI rfl)) <| ?_; refine qv (fun w hK => (ixn Try.underlying26 Ty.s45 rfl hv.1 rfl om)) <| ?_; refine qv (fun w hK => (lsF hK Ty.a45 Ty.s45 rfl hv om)) <| ?_; refine qv (fun w hK => mv) <| ?_; refine qv (fun w hK => (mI rfl)) <| ?_; refine qv (fun w hK => (ixn Try.underlying26 Ty.s45 rfl hu.1 rfl om)) <| ?_; refine qv (fun w hK => (lsF hK Ty.a45 Ty.s45 rfl hu om)) <| ?_; refine qv (fun w hK => (neS2 Try.underlying45 Try.underlying3 Try.underlying3 (by decide) (by decide) rfl rfl kr kr rfl rfl)) <| ?_; refine qn <| ?_
   intro w hK
   refine thn <| ?_
   refine cdP rfl (fun h1 => ?_) (fun h1 => ?_)
   ·refine sq <| rg <| ?_
    refine vl (aB rfl) <| nl <| thn <| rt <| bkr <| thr <| thr <| bkr <| thr <| p1r (a := .bool _) rfl <| ?_
    exact ⟨by rw [dec_f fun h => h1 (by subst h; exact ⟨rfl, rfl⟩)], hK⟩
   ·have h1' := Decidable.not_not.1 h1
    refine sk <| bkn <| thn <| rg <| ?_
    refine vl (mI rfl) <| vl (ad rfl rfl) <| vl (aI rfl) <| nl <| thn <| ?_
    exact ⟨i + 1, ⟨rfl, rfl, rfl, trivial⟩, ⟨hi', by rw [List.take_succ_eq_append_getElem hi', List.take_succ_eq_append_getElem hi2, ha, show ts[i] = us[i] from Prod.ext h1'.1 h1'.2], hK⟩, by omega⟩
  ·have hi' : i = ts.length := by omega
   subst hi'
   rw [List.take_length, hln, List.take_length] at ha
   refine ex <| the <| the <| bkh <| thn <| sq <| rg <| ?_
   refine vl (aB rfl) <| nl <| thn <| rt <| p1r (a := .bool _) rfl <| ?_
   exact ⟨by rw [dec_t ha], hK⟩
end
end Go.Proofs.Ytlpefeeadeocgaa
