/- The law on new worlds: what it returns. Conditions: those that each row states. -/
import Derived.Test.YtjfjnmbgimfmaaaDw
import Derived.Test.YtjfjnmbgimfmaaaWdN
namespace Go.Proofs.Ytjfjnmbgimfmaaa
open Go Go.Ro

section
variable {e w : World} {G : View} {L A : Own} {v u cva : Value} {code xs ys : List Int} {rs qs : List Rn} {W W' : Wv} {wd wd' : Wd} {a b k : Int} {i j : Nat}

theorem FnWorldNew_c (hK : K e w G L) (hc : BytS G cva code) : Ret Try.prog 4 #[cva] w (fun r w' => r = .bool true ∧ ∃ G' L', K e w' G' L' ∧ VLe G G') := by
  refine enter1 (args := [cva]) Try.func4 rfl rfl rfl rfl ?_
  refine sq <| rg <| ?_
  refine vl (asv (v := .bool _) rfl) <| nl <| thn <| sq <| sq <| rg <| vl mv <| vl (ln Try.underlying38 rfl hc.len) <| vl (gt rfl rfl) <| nl <| thn <| ?_
  refine cdP rfl (fun hbig => ?_) (fun hbig => ?_)
  · refine sq <| rg <| ?_
    refine vl (asv (v := .bool _) rfl) <| nl <| thn <| rt <| thr <| p1r (a := .bool _) rfl <| ?_
    exact ⟨rfl, _, _, hK, VLe.refl _⟩
  · refine sk <| thn <| sq <| rg <| ?_
    refine vl mv <| ?_
    refine cl Try.call15 rfl (DrawWorldNew_c hK hc) ?_
    rintro v w ⟨G1, xs, hG1, hx, hxl, hK⟩
    refine vl asg <| nl <| thn <| sq <| rg <| vl mv <| ?_
    refine cl Try.call9 rfl (implWorldNew_c hK hx) ?_
    rintro _ w ⟨G2, W1, wd1, rs1, b1, rfl, hG2, hW1, hb1, he1, hK⟩
    replace hx := hx.mono hG2
    refine vl mv <| vl (ext rfl rfl) <| vl (ext rfl rfl) <| ?_
    refine al hK Ty.i29 rfl ?_
    intro b4 w hK
    refine soS hK Ty.i29 0 rfl rfl rfl rfl (WdS.one hW1) rfl ?_
    intro w hK
    refine vl (asv (v := .bool _) rfl) <| nl <| thn <| sq <| rg <| vl mv <| ?_
    refine cl Try.call7 rfl (specWorldNew_c hK hx) ?_
    rintro _ w ⟨G3, W2, wd2, rs2, b2', rfl, hG3, hW2, hb2, he2, hK⟩
    replace hx := hx.mono hG3
    replace hW1 := hW1.mono hG3
    have hbb : b1 = b2' := Bool.eq_iff_iff.2 (hb1.trans hb2.symm)
    subst hbb
    obtain rfl : wd1 = wd2 := he1.trans he2.symm
    have hG := (hG1.trans hG2).trans hG3
    refine vl mv <| vl (ext rfl rfl) <| vl (ext rfl rfl) <| ?_
    refine al hK Ty.i29 rfl ?_
    intro b6 w hK
    refine soS hK Ty.i29 0 rfl rfl rfl rfl (WdS.one hW2) rfl ?_
    intro w hK
    refine vl (asv (v := .bool _) rfl) <| nl <| thn <| sq <| sq <| rg <| vl (mvv (v := .bool _) rfl) <| vl (mvv (v := .bool _) rfl) <| vl (neB Try.underlying4 rfl rfl) <| vl (mvv (v := .bool _) rfl) <| ?_
    refine spl (t := 27) rfl (fun h1 => ?_) (fun h1 => ?_)
    · simp at h1
    · have _ := trivial
      refine gy rfl <| vl (lsO hK Ty.a29 Ty.s29 1 rfl rfl rfl) <| gy rfl <| vl (lsO hK Ty.a29 Ty.s29 0 rfl rfl rfl) <| gy rfl <| ?_
      refine cl Try.call16 rfl (sameWorld_c hK hW1 hW2) ?_
      rintro _ w ⟨rfl, hK⟩
      rw [dec_t rfl]
      refine gy rfl <| vl (ntB rfl) <| vl (pk rfl) <| vl (mvv (v := .bool _) rfl) <| ?_
      refine spl (t := 33) rfl (fun h2 => ?_) (fun h2 => ?_)
      · simp at h2
      · have _ := trivial
        refine gy rfl <| vl (mvv (v := .bool _) rfl) <| gy rfl <| vl (ntB rfl) <| vl (pk rfl) <| nl <| thn <| ?_
        refine cdB rfl (fun h3 => ?_) (fun h3 => ?_)
        · refine sq <| rg <| ?_
          refine vl (mvv (v := .bool _) rfl) <| vl (mvv (v := .bool _) rfl) <| vl (eqB Try.underlying4 rfl rfl) <| vl (mvv (v := .bool _) rfl) <| ?_
          refine spl (t := 40) rfl (fun h4 => ?_) (fun h4 => ?_)
          · refine gy rfl <| vl (lsO hK Ty.a29 Ty.s29 1 rfl rfl rfl) <| gy rfl <| vl (lsO hK Ty.a29 Ty.s29 0 rfl rfl rfl) <| gy rfl <| ?_
            refine cl Try.call16 rfl (sameWorld_c hK hW1 hW2) ?_
            rintro _ w ⟨rfl, hK⟩
            rw [dec_t rfl]
            refine vl (pk rfl) <| vl (asv (v := .bool _) rfl) <| nl <| thn <| rt <| thr <| p1r (a := .bool _) rfl <| ?_
            exact ⟨rfl, _, _, hK, hG⟩
          · simp at h4
        · have hb := Eq.mp (Bool.not_eq_false' _) h3
          have hok := hb1.1 hb
          rw [hb] at he1
          have hwd : wd1 = newW xs := he1
          subst hwd
          have hval := newW_ok hok.1 hok.2
          refine sk <| thn <| sq <| sq <| rg <| ?_
          refine vl (asv (v := .int _ _) rfl) <| nl <| thn <| bk <| ?_
          refine lp (σ := Nat × View) (fun s => [(3, v), (4, .pointer (some ⟨b4, 0, none⟩)), (8, .int .i64 (s.1 : Int))]) (fun s w => s.1 ≤ 64 ∧ VLe G3 s.2 ∧ K e w s.2 ((b6, row (wc W2) 29) :: (b4, row (wc W1) 29) :: L)) (fun s => 64 - s.1) (0, G3) ⟨rfl, rfl, rfl, trivial⟩ ⟨Nat.zero_le _, VLe.refl _, hK⟩ ?_
          rintro ⟨i, G4⟩ g w ⟨hi, hG4, hK⟩
          simp only at hi hG4 hK
          refine sq <| sq <| rg <| ?_
          refine vl (mvv (v := .int _ _) rfl) <| vl (lt rfl rfl) <| nl <| thn <| ?_
          refine cdP rfl (fun hc => ?_) (fun hc => ?_)
          · have hi' : i < 64 := by simp only at hc; omega
            refine sk <| thn <| sq <| bk <| sq <| rg <| ?_
            refine vl (lsO hK Ty.a29 Ty.s29 1 rfl rfl rfl) <| vl (mvv (v := .int _ _) rfl) <| ?_
            refine cl Try.call17 rfl (WorldOwner_c hK (hW1.mono hG4) (by simp [newW])) ?_
            rintro _ w ⟨⟨n1, rfl, _, hn1⟩, G5, hG5, hK⟩
            refine vl mv <| vl (mvv (v := .int _ _) rfl) <| ?_
            refine cl Try.call18 rfl (NodesNext_c hK (hx.mono (hG4.trans hG5))) ?_
            rintro _ w ⟨⟨n2, rfl, hn2⟩, hK⟩
            have hpt : Pt (i : Int) := ⟨by omega, by omega⟩
            have e1 := hn1 hval hpt
            have e2 := hn2 hok.1 hpt
            rw [own_new hok.1] at e1
            refine vl (ne rfl rfl) <| nl <| thn <| ?_
            refine cdP rfl (fun h5 => ?_) (fun h5 => ?_)
            · exact absurd (e1.trans e2.symm) h5
            · have _ := trivial
              refine sk <| bkn <| thn <| rg <| ?_
              refine vl (mvv (v := .int _ _) rfl) <| vl (ad rfl rfl (by first | omega | (simp only; omega)) (by first | omega | (simp only; omega))) <| vl (asv (v := .int _ _) rfl) <| nl <| thn <| ?_
              exact ⟨(i + 1, G5), ⟨rfl, rfl, rfl, trivial⟩, ⟨by simp only; omega, hG4.trans hG5, hK⟩, by simp only; omega⟩
          · refine ex <| the <| the <| bkh <| thn <| sq <| rg <| ?_
            refine vl (lsO hK Ty.a29 Ty.s29 1 rfl rfl rfl) <| ?_
            have hW1' := hW1.mono hG4
            have hring : rgl rs1 = idl xs := hW1'.rg
            refine cl Try.call19 rfl (implWorldValid_c hK hW1' (by simp [newW])) ?_
            rintro _ w ⟨rfl, hK⟩
            rw [dec_t hval]
            refine vl (mvv (v := .bool _) rfl) <| ?_
            refine spl (t := 58) rfl (fun h6 => ?_) (fun h6 => ?_)
            · refine gy rfl <| vl (fa Try.underlying29 rfl Ty.z23 rfl) <| gy rfl <| vl (ldO hK Ty.o23 1 rfl rfl rfl) <| gy rfl <| ?_
              refine cl Try.call20 rfl (implRingIdeal_c hK hW1'.ring) ?_
              rintro _ w ⟨⟨b9, rfl, hb9⟩, hK⟩
              have hb9' : b9 = true := hb9.2 ⟨by rw [hring]; exact hval.2.1.1, by rw [← rg_len, hring]; simp [idl]; exact hok.2, by rw [hring, ids_idl]⟩
              refine vl (pk rfl) <| vl (mvv (v := .bool _) rfl) <| ?_
              refine spl (t := 63) rfl (fun h7 => ?_) (fun h7 => ?_)
              · skip
                refine gy rfl <| vl (fa Try.underlying29 rfl Ty.z25 rfl) <| gy rfl <| vl (ldO hK Ty.o25 1 rfl rfl rfl) <| gy rfl <| vl (ln Try.underlying25 rfl hW1'.items.len) <| gy rfl <| vl (eq rfl rfl) <| vl (pk rfl) <| vl (asv (v := .bool _) rfl) <| nl <| thn <| rt <| p1r (a := .bool _) rfl <| ?_
                exact ⟨rfl, _, _, hK, hG.trans hG4⟩
              · rw [hb9'] at h7; cases h7
            · cases h6
end
end Go.Proofs.Ytjfjnmbgimfmaaa
