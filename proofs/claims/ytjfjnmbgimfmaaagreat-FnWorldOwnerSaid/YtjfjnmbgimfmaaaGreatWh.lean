/- Drawn worlds, and who may change a key in them. Conditions: those that each row states. -/
import Derived.Test.YtjfjnmbgimfmaaaGreatWg
import Derived.Test.YtjfjnmbgimfmaaaGreatWe
namespace Go.Proofs.YtjfjnmbgimfmaaaGreat
open Go Go.Ro

section
variable {e w : World} {G : View} {L A : Own} {v u cva : Value} {xs ys code : List Int} {ls ms : List Ls} {rs qs : List Rn} {zs ts : List It} {W W' : Wv} {wd wd' : Wd} {a b c k kd id other p : Int} {i j bk o rb : Nat}

theorem DrawWorldOwner_c (hK : K e w G L) (hc : BytS G cva code) :
    Ret Tryz.prog 4 #[cva] w (fun r w' => ∃ G' W wd rs k, r = .tuple #[.agg (wc W).toArray, .int .i64 k] ∧ VLe G G' ∧ WdS G' lc W wd rs ∧ wd.items.length ≤ 1000000 ∧ K e w' G' L) := by
  refine enterG2 (args := [cva]) Tryz.func4 rfl rfl rfl rfl ?_
  refine sq <| rg <| ?_
  refine al hK Ty.i30 rfl ?_
  intro b2 w hK
  refine vl (asv (v := .int _ _) rfl) <| nl <| thn <| sq <| rg <| vl mv <| ?_
  refine cl Tryz.call9 rfl (l6Open_c hK hc) ?_
  rintro _ w ⟨rb, cvb, code, rfl, hcode, hlen, hK⟩
  refine vl asg <| nl <| thn <| sq <| rg <| vl mv <| ?_
  refine cl Tryz.call10 rfl (l92World_c hK hcode hlen (by first | omega | (simp only; omega)) (by first | omega | (simp only; omega))) ?_
  rintro _ w ⟨G1, W0, wd0, rs0, p1, hG1, rfl, hW0, hok, hp1, hp2, hK⟩
  replace hcode := hcode.mono hG1
  have hil0 : wd0.items.length ≤ 1000000 := by have := hok.wda.zl; omega
  refine al hK Ty.i30 rfl ?_
  intro b5 w hK
  refine soS hK Ty.i30 0 rfl rfl rfl rfl (WdS.one hW0) rfl ?_
  intro w hK
  refine nl <| thn <| sq <| sq <| rg <| vl mv <| ?_
  refine cl Tryz.call11 rfl (pickJ_c 1 hK rfl hcode hlen (by first | omega | (simp only; omega)) (by first | omega | (simp only; omega)) (by first | omega | (simp only; omega))) ?_
  rintro _ w ⟨⟨k11, rfl, hk11, hkn11⟩, hK⟩
  refine vl (eq rfl rfl) <| nl <| thn <| ?_
  refine ct (σ := View × Wv × Wd × List Rn × Int) (fun s => [(2, .pointer (some ⟨b2, 0, none⟩)), (4, .pointer (some ⟨rb, 0, none⟩)), (5, .pointer (some ⟨b5, 0, none⟩))]) (fun s w => VLe G s.1 ∧ BytS s.1 cvb code ∧ WdS s.1 lc s.2.1 s.2.2.1 s.2.2.2.1 ∧ s.2.2.1.items.length ≤ 1000000 ∧ 0 ≤ s.2.2.2.2 ∧ s.2.2.2.2 ≤ 100000 ∧ K e w s.1 ((b5, row (wc s.2.1) 30) :: (rb, row [cvb, .int .i64 s.2.2.2.2] 54) :: (b2, row [.int .i64 0, .slice none 0 0, .slice none 0 0, .slice none 0 0, .int .i64 0, .slice none 0 0, .slice none 0 0] 30) :: L)) ?_ ?_
  · refine cdP rfl (fun c0 => ?_) (fun c0 => ?_)
    · refine rg <| ?_
      refine vl mv <| ?_
      refine cl Tryz.call12 rfl (l92Wrong_c hK.swp hcode hlen (by first | omega | (simp only; omega)) (by first | omega | (simp only; omega))) ?_
      rintro _ w ⟨G2, W, wd, rs, p2, hG2, rfl, hW, hil, hp3, hp4, hK⟩
      replace hK := hK.swp
      refine soS hK Ty.i30 0 rfl rfl rfl rfl (WdS.one hW) rfl ?_
      intro w hK
      refine nl <| ctn <| ?_
      exact ⟨(G2, W, wd, rs, p2), ⟨rfl, rfl, rfl, trivial⟩, hG1.trans hG2, hcode.mono hG2, hW, hil, by simp only; omega, by simp only; omega, hK⟩
    · refine sk <| ctn <| ?_
      exact ⟨(G1, W0, wd0, rs0, p1 + 1), ⟨rfl, rfl, rfl, trivial⟩, hG1, hcode, hW0, hil0, by simp only; omega, by simp only; omega, hK⟩
  · rintro ⟨G3, W3, wd3, rs3, p3⟩ g w ⟨hG3, hcode, hW3, hil3, hp3, hq3, hK⟩
    simp only at hG3 hcode hW3 hil3 hp3 hq3 hK
    refine thn <| sq <| ?_
    refine rgs (fun w => K e w G3 ((b5, row (wc W3) 30) :: L)) (fun w => K _ w _ _) [false, false, false, false, false] 5 Ty.mixed rfl rfl (hK.drawn _) ?_
    intro w hK
    have hS : (fun w => K e w G3 ((b5, row (wc W3) 30) :: L)) w := K.sl hK (by repeat' (first | exact List.Sublist.refl _ | refine List.Sublist.cons_cons _ ?_ | refine List.Sublist.cons _ ?_ | refine List.Sublist.trans ?_ (List.sublist_append_right _ _)))
    refine xt (i := 0) (l' := [true, false, false, false, false]) rfl (by kernel_rfl) rfl rfl (fun w hK => (lsO hK Ty.a30 Ty.s30 0 rfl rfl rfl)) hS <| ?_; refine xt (i := 1) (l' := [true, true, false, false, false]) rfl (by kernel_rfl) rfl rfl (fun w hK => mv) hS <| ?_
    refine xe (i := 2) (l' := [true, true, true, false, false]) (by kernel_rfl) rfl rfl ?_
    refine cl Tryz.call13 rfl (l91PointJ_c 1 hK rfl hcode hlen (by first | omega | (simp only; omega)) (by first | omega | (simp only; omega))) ?_
    rintro _ w ⟨k17, p17, rfl, hk17, hkn17, hp17, hq17, hK⟩
    replace hS : (fun w => K e w G3 ((b5, row (wc W3) 30) :: L)) w := K.sl hK (by repeat' (first | exact List.Sublist.refl _ | refine List.Sublist.cons_cons _ ?_ | refine List.Sublist.cons _ ?_ | refine List.Sublist.trans ?_ (List.sublist_append_right _ _)))
    refine xn (fun w => K e w G3 ((b5, row (wc W3) 30) :: L)) hS (fun _ h => h) ?_
    refine xe (i := 3) (l' := [true, true, true, true, false]) (by kernel_rfl) rfl rfl ?_
    refine soS hK Ty.i30 2 rfl rfl rfl rfl (WdS.one hW3) rfl ?_
    intro w hK
    replace hS : (fun w => K e w G3 ((b5, row (wc W3) 30) :: L)) w := K.sl hK (by repeat' (first | exact List.Sublist.refl _ | refine List.Sublist.cons_cons _ ?_ | refine List.Sublist.cons _ ?_ | refine List.Sublist.trans ?_ (List.sublist_append_right _ _)))
    refine xn (fun w => K e w G3 ((b5, row (wc W3) 30) :: L)) hS (fun _ h => h) ?_
    refine xt (i := 4) (l' := [true, true, true, true, true]) rfl (by kernel_rfl) rfl rfl (fun w hK => (asv (v := .int _ _) rfl)) hS <| ?_; refine xd (by kernel_rfl) <| thn <| rt <| pg2r (rvS hK Ty.a30 Ty.s30 2 rfl rfl rfl) (rvT (v := .int _ _) rfl) <| ?_
    exact ⟨G3, W3, wd3, rs3, _, rfl, hG3, hW3, hil3, hK.drop1.drop1.drop1⟩
theorem lawsNodeAt_c (hK : K e w G L) (hv : RngS G v rs) :
    Ret Tryz.prog 8 #[v, .int .i64 k] w (fun r w' => ∃ x : Rn, r = .agg (rc x).toArray ∧ (k ∈ ids (rgl rs) → x.1 = k) ∧ K e w' G L) := by
  have hs := hv.sl
  have hle := hs.le
  refine enterG1 (args := [v, .int .i64 k]) Tryz.func8 rfl rfl rfl rfl ?_
  refine sq <| rg <| ?_
  refine al hK Ty.i39 rfl ?_
  intro b4 w hK
  refine nl <| thn <| sq <| sq <| rg <| vl (asv (v := .int _ _) rfl) <| nl <| thn <| bk <| ?_
  refine lp (σ := Nat) (fun i => [(0, v), (1, .int .i64 k), (4, .pointer (some ⟨b4, 0, none⟩)), (5, .int .i64 (i : Int))]) (fun i w => i ≤ rs.length ∧ (∀ x ∈ rs.take i, x.1 ≠ k) ∧ K e w G ((b4, row [.int .i64 0, .int .i64 0, .slice none 0 0] 39) :: L)) (fun i => rs.length - i) 0 ⟨rfl, rfl, rfl, rfl, trivial⟩ ⟨Nat.zero_le _, by simp, hK⟩ ?_
  rintro i g w ⟨hi, ha, hK⟩
  refine sq <| sq <| rg <| ?_
  refine vl (mvv (v := .int _ _) rfl) <| vl mv <| vl (ln Tryz.underlying23 rfl hs.len) <| vl (lt rfl rfl) <| nl <| thn <| ?_
  refine cdP rfl (fun hc => ?_) (fun hc => ?_)
  · have hi' : i < rs.length := by omega
    have ho1 := (hv.at hi').1.one
    refine sk <| thn <| sq <| bk <| sq <| rg <| ?_
    refine vl mv <| vl (mvv (v := .int _ _) rfl) <| vl (ixn Tryz.underlying23 Ty.s39 rfl hs.1 rfl (by first | omega | (simp only; omega))) <| vl (fe Tryz.underlying39 rfl Ty.z3 rfl hs.1 (by first | omega | (simp only; omega))) <| vl (ldV hK Ty.o3 rfl (hs.cell (by first | omega | (simp only; omega)) 0 rfl)) <| vl (mvv (v := .int _ _) rfl) <| vl (eq rfl rfl) <| nl <| thn <| ?_
    refine cdP rfl (fun h1 => ?_) (fun h1 => ?_)
    · skip
      refine sq <| rg <| ?_
      refine vl mv <| vl (mvv (v := .int _ _) rfl) <| vl (ixn Tryz.underlying23 Ty.s39 rfl hs.1 rfl (by first | omega | (simp only; omega))) <| vl (lsF hK Ty.a39 Ty.s39 rfl hs (by first | omega | (simp only; omega))) <| ?_
      refine soS hK Ty.i39 0 rfl rfl rfl rfl (allc rfl (allc rfl (allc ho1 rfl))) rfl ?_
      intro w hK
      refine nl <| thn <| rt <| bkr <| thr <| thr <| bkr <| thr <| pg1r (rvS hK Ty.a39 Ty.s39 0 rfl rfl rfl) <| ?_
      exact ⟨rs[i], rfl, fun _ => h1, hK.drop1⟩
    · refine sk <| bkn <| thn <| rg <| ?_
      refine vl (mvv (v := .int _ _) rfl) <| vl (ad rfl rfl (by first | omega | (simp only; omega)) (by first | omega | (simp only; omega))) <| vl (asv (v := .int _ _) rfl) <| nl <| thn <| ?_
      exact ⟨i + 1, ⟨rfl, rfl, rfl, rfl, trivial⟩, ⟨hi', fun x hx => by
        rw [List.take_succ_eq_append_getElem hi'] at hx
        rcases List.mem_append.1 hx with hx | hx
        · exact ha x hx
        · obtain rfl := List.mem_singleton.1 hx; exact h1, hK⟩, by omega⟩
  · have hi' : i = rs.length := by omega
    subst hi'
    rw [List.take_length] at ha
    refine ex <| the <| the <| bkh <| thn <| sq <| rg <| ?_
    refine bsN [.const (.int .i64 (-1)), .const (.int .i64 (-1))] hK Tryz.underlying26 Ty.i3 rfl rfl rfl rfl rfl rfl rfl rfl ?_
    intro b23 w hK
    refine vl (bd [(0, _), (2, _)] Ty.p39 Ty.i39 rfl ⟨⟨rfl, rfl⟩, ⟨rfl, rfl⟩, trivial⟩ rfl) <| ?_
    refine soS hK Ty.i39 1 rfl rfl rfl rfl rfl rfl ?_
    intro w hK
    refine nl <| thn <| rt <| pg1r (rvS hK Ty.a39 Ty.s39 1 rfl rfl rfl) <| ?_
    exact ⟨(-1, 0, .slice (some ⟨b23, 0, none⟩) 2 2, []), rfl, fun h => absurd h (not_ids_rg ha), hK.drop1.drop1⟩
theorem FnWorldOwner_c (hK : K e w G L) (hc : BytS G cva code) : Ret Tryz.prog 3 #[cva] w (fun r w' => r = .bool true ∧ ∃ G' L', K e w' G' L' ∧ VLe G G') := by
  refine enter1 (args := [cva]) Tryz.func3 rfl rfl rfl rfl ?_
  refine sq <| rg <| ?_
  refine vl (asv (v := .bool _) rfl) <| nl <| thn <| sq <| sq <| rg <| vl mv <| vl (ln Tryz.underlying22 rfl hc.len) <| vl (gt rfl rfl) <| nl <| thn <| ?_
  refine cdP rfl (fun hbig => ?_) (fun hbig => ?_)
  · refine sq <| rg <| ?_
    refine vl (asv (v := .bool _) rfl) <| nl <| thn <| rt <| thr <| p1r (a := .bool _) rfl <| ?_
    exact ⟨rfl, _, _, hK, VLe.refl _⟩
  · refine sk <| thn <| sq <| rg <| ?_
    refine vl mv <| ?_
    refine cl Tryz.call4 rfl (DrawWorldOwner_c hK hc) ?_
    rintro _ w ⟨G1, W, wd, rs, k, rfl, hG1, hW, hil, hK⟩
    refine vl mv <| vl (ext rfl rfl) <| vl (ext rfl rfl) <| ?_
    refine al hK Ty.i30 rfl ?_
    intro b3 w hK
    refine soS hK Ty.i30 0 rfl rfl rfl rfl (WdS.one hW) rfl ?_
    intro w hK
    refine vl (asv (v := .int _ _) rfl) <| nl <| thn <| sq <| rg <| vl (lsO hK Ty.a30 Ty.s30 0 rfl rfl rfl) <| vl (mvv (v := .int _ _) rfl) <| ?_
    refine cl Tryz.call5 rfl (WorldOwner_c hK hW (by first | omega | (simp only; omega))) ?_
    rintro _ w ⟨⟨n2, rfl, i1, i2, i3⟩, G2, hG2, hK⟩
    replace hW := hW.mono hG2
    refine vl (asv (v := .int _ _) rfl) <| nl <| thn <| sq <| rg <| vl (lsO hK Ty.a30 Ty.s30 0 rfl rfl rfl) <| vl (mvv (v := .int _ _) rfl) <| ?_
    refine cl Tryz.call6 rfl (specWorldOwner_c hK hW (by first | omega | (simp only; omega))) ?_
    rintro _ w ⟨⟨n1, rfl, s1, s2, s3⟩, hK⟩
    have hnn : n1 = n2 := by
      by_cases h1 : WdOk wd
      · by_cases h2 : Pt k
        · rw [s2 h1 h2, i2 h1 h2]
        · rw [s3 h2, i3 h2]
      · rw [s1 h1, i1 h1]
    subst hnn
    refine vl (asv (v := .int _ _) rfl) <| nl <| thn <| sq <| sq <| rg <| vl (mvv (v := .int _ _) rfl) <| vl (mvv (v := .int _ _) rfl) <| vl (ne rfl rfl) <| vl (mvv (v := .bool _) rfl) <| ?_
    refine splP (t := 26) rfl (fun h1 => ?_) (fun h1 => ?_)
    · exact absurd rfl h1
    · have _ := trivial
      refine gy rfl <| vl (mvv (v := .int _ _) rfl) <| gy rfl <| vl (lt rfl rfl) <| vl (pk rfl) <| nl <| thn <| ?_
      refine cdP rfl (fun h2 => ?_) (fun h2 => ?_)
      · refine sq <| rg <| ?_
        refine vl (mvv (v := .int _ _) rfl) <| vl (mvv (v := .int _ _) rfl) <| vl (eq rfl rfl) <| vl (asv (v := .bool _) rfl) <| nl <| thn <| rt <| thr <| p1r (a := .bool _) rfl <| ?_
        exact ⟨by simp, _, _, hK, hG1.trans hG2⟩
      · have hok : WdOk wd := Classical.byContradiction fun h => by have := s1 h; omega
        have hp : Pt k := Classical.byContradiction fun h => by have := s3 h; omega
        have hn := s2 hok hp
        have hown : ¬ ((lsAt wd.leases k).2.2 < wd.now ∨ (lsAt wd.leases k).2.1 ∉ ids wd.ring) := fun h => by
          unfold own at hn; rw [if_pos h] at hn; omega
        have hn' : n1 = (lsAt wd.leases k).2.1 := by unfold own at hn; rw [if_neg hown] at hn; exact hn
        refine sk <| thn <| sq <| rg <| ?_
        refine vl (fa Tryz.underlying30 rfl Ty.z24 rfl) <| vl (ldO hK Ty.o24 0 rfl rfl rfl) <| vl (mvv (v := .int _ _) rfl) <| ?_
        refine cl Tryz.call7 rfl (LeaseOf_c hK hW.leases) ?_
        rintro _ w ⟨⟨b, x, rfl, hb1, hb2⟩, hK⟩
        have hbt : b = true := hb1.2 ⟨hok.2.2.1, hp⟩
        obtain rfl := hb2 hok.2.2.1 hp
        refine vl mv <| vl (ext rfl rfl) <| vl (ext rfl rfl) <| ?_
        refine al hK Ty.i35 rfl ?_
        intro b7 w hK
        refine soS hK Ty.i35 0 rfl rfl rfl rfl rfl rfl ?_
        intro w hK
        refine vl (asv (v := .bool _) rfl) <| nl <| thn <| sq <| rg <| vl (mvv (v := .bool _) rfl) <| vl (mvv (v := .bool _) rfl) <| ?_
        refine spl (t := 41) rfl (fun h3 => ?_) (fun h3 => ?_)
        · refine gy rfl <| vl (fa Tryz.underlying35 rfl Ty.z3 rfl) <| gy rfl <| vl (ldO hK Ty.o3 0 rfl rfl rfl) <| gy rfl <| vl (mvv (v := .int _ _) rfl) <| gy rfl <| vl (eq rfl rfl) <| vl (pk rfl) <| vl (mvv (v := .bool _) rfl) <| ?_
          refine splP (t := 47) rfl (fun h4 => ?_) (fun h4 => ?_)
          · refine gy rfl <| vl (fa Tryz.underlying35 rfl Ty.z3 rfl) <| gy rfl <| vl (ldO hK Ty.o3 0 rfl rfl rfl) <| gy rfl <| vl (fa Tryz.underlying30 rfl Ty.z3 rfl) <| gy rfl <| vl (ldO hK Ty.o3 1 rfl rfl rfl) <| gy rfl <| vl (ge rfl rfl) <| vl (pk rfl) <| vl (mvv (v := .bool _) rfl) <| ?_
            refine splP (t := 54) rfl (fun h5 => ?_) (fun h5 => ?_)
            · refine gy rfl <| vl (fa Tryz.underlying30 rfl Ty.z23 rfl) <| gy rfl <| vl (ldO hK Ty.o23 1 rfl rfl rfl) <| gy rfl <| vl (mvv (v := .int _ _) rfl) <| gy rfl <| ?_
              refine cl Tryz.call8 rfl (lawsNodeAt_c hK hW.ring) ?_
              rintro _ w ⟨y, rfl, hy, hK⟩
              refine gy rfl <| vl (ff Tryz.underlying39 rfl Ty.o3 rfl rfl) <| gy rfl <| vl (mvv (v := .int _ _) rfl) <| gy rfl <| vl (eq rfl rfl) <| vl (pk rfl) <| vl (asv (v := .bool _) rfl) <| nl <| thn <| rt <| p1r (a := .bool _) rfl <| ?_
              have hyn : y.1 = n1 := hy (by rw [hW.rg, hn']; exact Classical.byContradiction fun h => hown (.inr h))
              exact ⟨by rw [decide_eq_true hyn], _, _, hK, hG1.trans hG2⟩
            · exfalso
              have := hW.now
              omega
          · exact absurd hn'.symm h4
        · exact absurd hbt (by rw [h3]; simp)
end
end Go.Proofs.YtjfjnmbgimfmaaaGreat
