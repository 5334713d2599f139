/- Contracts of the functions that draw paths. Conditions: those that each row states. -/
import Derived.Test.YtemeepjdjaabmaaPd
import Derived.Test.YtemeepjdjaabmaaDr
import Derived.Test.YtemeepjdjaabmaaOw
namespace Go.Proofs.Ytemeepjdjaabmaa
open Go Go.Ro

section
variable {e w : World} {G : View} {L : Own} {cva v u : Value} {code xs ys : List Int} {xss yss : List (List Int)}

theorem l92Paths_c {rb : Nat} {p : Int} (hK : K e w G ((rb, row [cva, .int .i64 p] 91) :: L)) (hcode : BytS G cva code) (hlen : code.length ≤ 2000) (h0 : 0 ≤ p) (hp1 : p ≤ 1000) :
    Ret Try.prog 55 #[.pointer (some ⟨rb, 0, none⟩)] w (fun r w' => ∃ G' xss p', VLe G G' ∧ ISS G' r xss ∧ xss.length ≤ 9 ∧ 0 ≤ p' ∧ p' ≤ 3000 ∧ K e w' G' ((rb, row [cva, .int .i64 p'] 91) :: L)) := by
  refine enter1 (args := [.pointer (some ⟨rb, 0, none⟩)]) Try.func55 rfl rfl rfl rfl ?_
  refine sq <| rg <| ?_
  refine vl asg <| nl <| thn <| sq <| rg <| ?_
  refine bs0 hK Try.underlying23 Ty.i24 ?_
  intro b7 w hK
  refine vl asg <| nl <| thn <| sq <| sq <| rg <| vl (asv (v := .int _ _) rfl) <| nl <| thn <| bk <| ?_
  refine lp (σ := Nat × Int × Value × List (Value × List Int × Own) × Own) (fun s => [(0, .pointer (some ⟨rb, 0, none⟩)), (3, s.2.2.1), (4, .int .i64 (s.1 : Int))]) (fun s w => s.1 ≤ 8 ∧ p ≤ s.2.1 ∧ s.2.1 ≤ 1000 + 20 * s.1 ∧ s.2.2.2.1.length = s.1 ∧ (∀ p ∈ s.2.2.2.1, p.2.1.length ≤ 5) ∧ OSS 3 s.2.2.2.1 ∧ OS 1 24 s.2.2.1 s.1 (vals s.2.2.2.1) s.2.2.2.2 ∧ K e w G ((rb, row [cva, .int .i64 s.2.1] 91) :: (s.2.2.2.2 ++ (flat s.2.2.2.1 ++ L)))) (fun s => 8 - s.1) (0, p, .slice (some ⟨b7, 0, none⟩) 0 0, [], [(b7, row [] 24)]) ⟨rfl, rfl, rfl, trivial⟩ ⟨Nat.zero_le _, Int.le_refl _, hp1, rfl, fun p hp => absurd hp (by simp), OSS.nil, OS.lit rfl (Nat.zero_le _), hK.perm (List.Perm.swap _ _ _)⟩ ?_
  rintro ⟨i, p, vo, us, A⟩ g w ⟨h1, h2, h3, h4, h5, hu, ho, hK⟩
  simp only at h1 h2 h3 h4 h5 hu ho hK
  refine sq <| sq <| rg <| ?_
  refine vl (mvv (v := .int _ _) rfl) <| vl mv <| ?_
  refine cl Try.call56 rfl (pickN_c hK hcode hlen (by first | omega | (simp only; omega)) (by first | omega | (simp only; omega)) (by first | omega | (simp only; omega))) ?_
  rintro _ w ⟨⟨k10, rfl, hk10, hkn10⟩, hK⟩
  refine vl (lt rfl rfl) <| nl <| thn <| ?_
  refine cdP rfl (fun hc => ?_) (fun hc => ?_)
  · have hi' : i < 8 := by omega
    refine sk <| thn <| sq <| bk <| sq <| rg <| ?_
    refine bs0 hK Try.underlying24 Ty.i3 ?_
    intro b14 w hK
    refine vl asg <| nl <| thn <| sq <| sq <| rg <| vl (asv (v := .int _ _) rfl) <| nl <| thn <| bk <| ?_
    refine lp (σ := Nat × Int × Value × List Int × Own) (fun s => [(0, .pointer (some ⟨rb, 0, none⟩)), (3, vo), (4, .int .i64 (i : Int)), (5, s.2.2.1), (6, .int .i64 (s.1 : Int))]) (fun s w => s.1 ≤ 5 ∧ p + 1 ≤ s.2.1 ∧ s.2.1 ≤ p + 1 + 2 * s.1 ∧ OS 1 3 s.2.2.1 s.1 (ints s.2.2.2.1) s.2.2.2.2 ∧ s.2.2.2.1.length = s.1 ∧ K e w G ((rb, row [cva, .int .i64 s.2.1] 91) :: (s.2.2.2.2 ++ (A ++ (flat us ++ L))))) (fun s => 5 - s.1) (0, p + 1, .slice (some ⟨b14, 0, none⟩) 0 0, [], [(b14, row [] 3)]) ⟨rfl, rfl, rfl, rfl, rfl, trivial⟩ ⟨Nat.zero_le _, Int.le_refl _, by simp only; omega, OS.lit rfl (Nat.zero_le _), rfl, hK.perm (List.Perm.swap _ _ _)⟩ ?_
    rintro ⟨k, q, vi, xs, B⟩ g w ⟨g1, g2, g3, gi, g4, hK⟩
    simp only at g1 g2 g3 gi g4 hK
    refine sq <| sq <| rg <| ?_
    refine vl (mvv (v := .int _ _) rfl) <| vl mv <| ?_
    refine cl Try.call56 rfl (pickN_c hK hcode hlen (by first | omega | (simp only; omega)) (by first | omega | (simp only; omega)) (by first | omega | (simp only; omega))) ?_
    rintro _ w ⟨⟨k17, rfl, hk17, hkn17⟩, hK⟩
    refine vl (lt rfl rfl) <| nl <| thn <| ?_
    refine cdP rfl (fun hd => ?_) (fun hd => ?_)
    · have hk' : k < 5 := by omega
      refine sk <| thn <| sq <| bk <| rg <| ?_
      refine vl mv <| vl (mvv (v := .int _ _) rfl) <| vl (ml rfl rfl (by first | omega | (simp only; omega)) (by first | omega | (simp only; omega))) <| vl mv <| ?_
      refine cl Try.call56 rfl (pickN_c hK hcode hlen (by first | omega | (simp only; omega)) (by first | omega | (simp only; omega)) (by first | omega | (simp only; omega))) ?_
      rintro _ w ⟨⟨k25, rfl, hk25, hkn25⟩, hK⟩
      refine vl (ad rfl rfl (by first | omega | (simp only; omega)) (by first | omega | (simp only; omega))) <| ?_
      refine bsN [.tmp 26] hK Try.underlying24 Ty.i3 rfl rfl rfl rfl rfl rfl rfl rfl ?_
      intro b27 w hK
      replace hK := hK.perm (List.perm_middle.cons _)
      refine ap1 (news := [.int .i64 (8 * (i : Int) + k25)]) hK Try.underlying24 Ty.i3 rfl rfl rfl gi rfl rfl rfl (by first | omega | (simp only; omega)) fun v' B' w gi' hK => ?_
      refine vl asg <| nl <| bkn <| thn <| rg <| vl (mvv (v := .int _ _) rfl) <| vl (ad rfl rfl (by first | omega | (simp only; omega)) (by first | omega | (simp only; omega))) <| vl (asv (v := .int _ _) rfl) <| nl <| thn <| ?_
      refine ⟨⟨k + 1, q + 1 + 1, v', xs ++ [8 * (i : Int) + k25], B'⟩, ⟨rfl, rfl, rfl, rfl, rfl, trivial⟩, ⟨hk', ?_, ?_, by simpa [ints] using gi', by simp [g4], K.back1 hK⟩, by simp only; omega⟩
      · show p + 1 ≤ q + 1 + 1; omega
      · show q + 1 + 1 ≤ p + 1 + 2 * ((k + 1 : Nat) : Int); omega
    · skip
      refine ex <| the <| the <| bkh <| thn <| rg <| ?_
      refine vl mv <| vl mv <| ?_
      refine bsN [.tmp 30] hK Try.underlying23 Ty.i24 rfl rfl rfl rfl (show ([vi] : List Value).all Ro.one = true by simp [gi.one]) rfl rfl rfl ?_
      intro b31 w hK
      replace hK : K e w G ((b31, row [vi] 24) :: (rb, row [cva, .int .i64 (q + 1)] 91) :: (B ++ (A ++ (flat us ++ L)))) := hK
      replace hK : K e w G ((b31, row [vi] 24) :: (A ++ ((rb, row [cva, .int .i64 (q + 1)] 91) :: (flat (us ++ [(vi, xs, B)]) ++ L)))) := hK.cnt fun f => by simp only [flat_snoc, List.map_append, List.map_cons, List.sum_append, List.sum_cons]; omega
      refine ap1 (news := [vi]) hK Try.underlying23 Ty.i24 rfl rfl rfl ho rfl rfl (by simp [gi.one]) (by first | omega | (simp only; omega)) fun v' A' w ho' hK => ?_
      refine vl asg <| nl <| bkn <| thn <| rg <| vl (mvv (v := .int _ _) rfl) <| vl (ad rfl rfl (by first | omega | (simp only; omega)) (by first | omega | (simp only; omega))) <| vl (asv (v := .int _ _) rfl) <| nl <| thn <| ?_
      refine ⟨⟨i + 1, q + 1, v', us ++ [(vi, xs, B)], A'⟩, ⟨rfl, rfl, rfl, trivial⟩, ⟨by omega, ?_, ?_, by simp [h4], ?_, hu.snoc (g4 ▸ gi), by rw [vals_snoc]; exact ho', K.back1 hK⟩, by simp only; omega⟩
      · show _ ≤ q + 1; omega
      · show q + 1 ≤ 1000 + 20 * ((i + 1 : Nat) : Int); omega
      · intro x hx
        rcases List.mem_append.1 hx with hx | hx
        · exact h5 x hx
        · rw [List.mem_singleton.1 hx]; show xs.length ≤ 5; omega
  · refine ex <| the <| the <| bkh <| thn <| sq <| sq <| rg <| ?_
    refine vl mv <| ?_
    refine cl Try.call56 rfl (pickN_c hK hcode hlen (by first | omega | (simp only; omega)) (by first | omega | (simp only; omega)) (by first | omega | (simp only; omega))) ?_
    rintro _ w ⟨⟨k34, rfl, hk34, hkn34⟩, hK⟩
    refine nl <| thn <| bk <| sq <| rg <| vl (eq rfl rfl) <| vl (asv (v := .bool _) rfl) <| nl <| thn <| ?_
    refine ct (σ := Int × Value × List (Value × List Int × Own) × Own) (fun s => [(3, s.2.1)]) (fun s w => 0 ≤ s.1 ∧ s.1 ≤ 3000 ∧ s.2.2.1.length ≤ 9 ∧ OSS 3 s.2.2.1 ∧ OS 1 24 s.2.1 s.2.2.1.length (vals s.2.2.1) s.2.2.2 ∧ K e w G ((rb, row [cva, .int .i64 s.1] 91) :: (s.2.2.2 ++ (flat s.2.2.1 ++ L)))) ?_ ?_
    · refine cdP rfl (fun h0 => ?_) (fun h0 => ?_)
      · skip
        refine sq <| rg <| ?_
        refine vl mv <| vl (ln Try.underlying23 rfl ho.len) <| vl (gt rfl rfl) <| nl <| thn <| ?_
        refine cdP rfl (fun hl => ?_) (fun hl => ?_)
        · obtain ⟨v0, xs0, A0, us1, rfl⟩ : ∃ v0 xs0 A0 us1, us = (v0, xs0, A0) :: us1 := by
            match us, h4 with
            | [], h => simp at h; omega
            | (a, b, c) :: t, _ => exact ⟨a, b, c, t, rfl⟩
          have hv0 := hu _ (List.mem_cons_self ..)
          have hx0 := h5 _ (List.mem_cons_self ..)
          simp only at hv0 hx0
          refine rgt (fun w => K _ w _ _) [false, false, false, false, false, false, false, false, false, false, false, false, false, false] 14 Ty.mixed rfl rfl (hK.drawn _) ?_
          intro w hK
          refine xt (i := 0) (l' := [true, false, false, false, false, false, false, false, false, false, false, false, false, false]) rfl (by kernel_rfl) rfl rfl (fun w _ => mv) trivial <| ?_; refine xt (i := 1) (l' := [true, true, false, false, false, false, false, false, false, false, false, false, false, false]) rfl (by kernel_rfl) rfl rfl (fun w _ => mv) trivial <| ?_; refine xt (i := 2) (l' := [true, true, true, false, false, false, false, false, false, false, false, false, false, false]) rfl (by kernel_rfl) rfl rfl (fun w _ => (ixn1 Try.underlying23 Ty.s24 rfl ho.slw rfl (by first | omega | (simp only; omega)))) trivial <| ?_; refine xt (i := 4) (l' := [true, true, true, false, true, false, false, false, false, false, false, false, false, false]) rfl (by kernel_rfl) rfl rfl (fun w _ => mv) trivial <| ?_; refine xt (i := 7) (l' := [true, true, true, false, true, false, false, true, false, false, false, false, false, false]) rfl (by kernel_rfl) rfl rfl (fun w _ => mv) trivial <| ?_
          refine xe2 (i := 3) (j := 5) (l' := [true, true, true, true, true, false, false, true, false, false, false, false, false, false]) (l2 := [true, true, true, false, true, true, false, true, false, false, false, false, false, false]) (by kernel_rfl) rfl rfl rfl rfl ?_ ?_
          · refine vl (ldC Ty.o24 rfl (ho.cell (K.mid1 hK) (j := 0) rfl)) <| ?_
            refine xn (fun _ => True) trivial (fun _ _ => trivial) ?_
            refine xe (i := 5) (l' := [true, true, true, true, true, true, false, true, false, false, false, false, false, false]) (by kernel_rfl) rfl rfl ?_
            refine cl Try.call56 rfl (pickN_c hK hcode hlen (by first | omega | (simp only; omega)) (by first | omega | (simp only; omega)) (by first | omega | (simp only; omega))) ?_
            rintro _ w ⟨⟨k45, rfl, hk45, hkn45⟩, hK⟩
            refine xn (fun _ => True) trivial (fun _ _ => trivial) ?_
            refine xt (i := 6) (l' := [true, true, true, true, true, true, true, true, false, false, false, false, false, false]) rfl (by kernel_rfl) rfl rfl (fun w _ => (ml rfl rfl (by first | omega | (simp only; omega)) (by first | omega | (simp only; omega)))) trivial <| ?_
            refine xe (i := 8) (l' := [true, true, true, true, true, true, true, true, true, false, false, false, false, false]) (by kernel_rfl) rfl rfl ?_
            refine cl Try.call56 rfl (pickN_c hK hcode hlen (by first | omega | (simp only; omega)) (by first | omega | (simp only; omega)) (by first | omega | (simp only; omega))) ?_
            rintro _ w ⟨⟨k48, rfl, hk48, hkn48⟩, hK⟩
            refine xn (fun _ => True) trivial (fun _ _ => trivial) ?_
            refine xt (i := 9) (l' := [true, true, true, true, true, true, true, true, true, true, false, false, false, false]) rfl (by kernel_rfl) rfl rfl (fun w _ => (ad rfl rfl (by first | omega | (simp only; omega)) (by first | omega | (simp only; omega)))) trivial <| ?_
            refine xe (i := 10) (l' := [true, true, true, true, true, true, true, true, true, true, true, false, false, false]) (by kernel_rfl) rfl rfl ?_
            refine bsN [.tmp 49] hK Try.underlying24 Ty.i3 rfl rfl rfl rfl rfl rfl rfl rfl ?_
            intro b50 w hK
            refine xn (fun _ => True) trivial (fun _ _ => trivial) ?_
            refine xe (i := 11) (l' := [true, true, true, true, true, true, true, true, true, true, true, true, false, false]) (by kernel_rfl) rfl rfl ?_
            replace hK : K e w G ((b50, row [.int .i64 (8 * k45 + k48)] 3) :: (rb, row [cva, .int .i64 (p + 1 + 1 + 1 + 1)] 91) :: (A ++ (flat ((v0, xs0, A0) :: us1) ++ L))) := hK
            replace hK : K e w G ((b50, row [.int .i64 (8 * k45 + k48)] 3) :: (A0 ++ ((rb, row [cva, .int .i64 (p + 1 + 1 + 1 + 1)] 91) :: (A ++ (flat us1 ++ L))))) := hK.cnt fun f => by simp only [flat_cons, flat_snoc, List.map_append, List.map_cons, List.sum_append, List.sum_cons]; omega
            refine ap1 (news := [.int .i64 (8 * k45 + k48)]) hK Try.underlying24 Ty.i3 rfl rfl rfl hv0 rfl rfl rfl (by first | omega | (simp only; omega)) fun v' A0' w ho0 hK => ?_
            refine xn (fun _ => True) trivial (fun _ _ => trivial) ?_
            refine xt (i := 12) (l' := [true, true, true, true, true, true, true, true, true, true, true, true, true, false]) rfl (by kernel_rfl) rfl rfl (fun w _ => (ixn1 Try.underlying23 Ty.s24 rfl ho.slw rfl (by first | omega | (simp only; omega)))) trivial <| ?_
            refine xe (i := 13) (l' := [true, true, true, true, true, true, true, true, true, true, true, true, true, true]) (by kernel_rfl) rfl rfl ?_
            replace hK : K e w G (A ++ ((rb, row [cva, .int .i64 (p + 1 + 1 + 1 + 1)] 91) :: (A0' ++ (flat us1 ++ L)))) := hK.cnt fun f => by simp only [flat_cons, flat_snoc, List.map_append, List.map_cons, List.sum_append, List.sum_cons]; omega
            refine osSet hK ho (i := 0) (u := v') (by first | omega | (simp only; omega)) Ty.i24 rfl rfl rfl ho0.one fun A' w ho' hK => ?_
            refine xn (fun _ => True) trivial (fun _ _ => trivial) ?_
            refine xd (by kernel_rfl) <| ctn <| ?_
            refine ⟨(p + 1 + 1 + 1 + 1, vo, (v', xs0 ++ [8 * k45 + k48], A0') :: us1, A'), ⟨rfl, trivial⟩, by simp only; omega, by simp only; omega, by simp only [List.length_cons] at h4 ⊢; omega, ?_, ?_, ?_⟩
            · intro x hx
              rcases List.mem_cons.1 hx with rfl | hx
              · simpa [ints] using ho0
              · exact hu x (List.mem_cons_of_mem _ hx)
            · show OS 1 _ vo (us1.length + 1) (v' :: vals us1) A'
              rw [show us1.length + 1 = i from h4]; exact ho'
            · exact hK.cnt fun f => by simp only [flat_cons, flat_snoc, List.map_append, List.map_cons, List.sum_append, List.sum_cons]; omega
          · refine cl Try.call56 rfl (pickN_c hK hcode hlen (by first | omega | (simp only; omega)) (by first | omega | (simp only; omega)) (by first | omega | (simp only; omega))) ?_
            rintro _ w ⟨⟨k45, rfl, hk45, hkn45⟩, hK⟩
            refine xn (fun _ => True) trivial (fun _ _ => trivial) ?_
            refine xt (i := 6) (l' := [true, true, true, false, true, true, true, true, false, false, false, false, false, false]) rfl (by kernel_rfl) rfl rfl (fun w _ => (ml rfl rfl (by first | omega | (simp only; omega)) (by first | omega | (simp only; omega)))) trivial <| ?_
            refine xe2 (i := 3) (j := 8) (l' := [true, true, true, true, true, true, true, true, false, false, false, false, false, false]) (l2 := [true, true, true, false, true, true, true, true, true, false, false, false, false, false]) (by kernel_rfl) rfl rfl rfl rfl ?_ ?_
            · refine vl (ldC Ty.o24 rfl (ho.cell (K.mid1 hK) (j := 0) rfl)) <| ?_
              refine xn (fun _ => True) trivial (fun _ _ => trivial) ?_
              refine xe (i := 8) (l' := [true, true, true, true, true, true, true, true, true, false, false, false, false, false]) (by kernel_rfl) rfl rfl ?_
              refine cl Try.call56 rfl (pickN_c hK hcode hlen (by first | omega | (simp only; omega)) (by first | omega | (simp only; omega)) (by first | omega | (simp only; omega))) ?_
              rintro _ w ⟨⟨k48, rfl, hk48, hkn48⟩, hK⟩
              refine xn (fun _ => True) trivial (fun _ _ => trivial) ?_
              refine xt (i := 9) (l' := [true, true, true, true, true, true, true, true, true, true, false, false, false, false]) rfl (by kernel_rfl) rfl rfl (fun w _ => (ad rfl rfl (by first | omega | (simp only; omega)) (by first | omega | (simp only; omega)))) trivial <| ?_
              refine xe (i := 10) (l' := [true, true, true, true, true, true, true, true, true, true, true, false, false, false]) (by kernel_rfl) rfl rfl ?_
              refine bsN [.tmp 49] hK Try.underlying24 Ty.i3 rfl rfl rfl rfl rfl rfl rfl rfl ?_
              intro b50 w hK
              refine xn (fun _ => True) trivial (fun _ _ => trivial) ?_
              refine xe (i := 11) (l' := [true, true, true, true, true, true, true, true, true, true, true, true, false, false]) (by kernel_rfl) rfl rfl ?_
              replace hK : K e w G ((b50, row [.int .i64 (8 * k45 + k48)] 3) :: (rb, row [cva, .int .i64 (p + 1 + 1 + 1 + 1)] 91) :: (A ++ (flat ((v0, xs0, A0) :: us1) ++ L))) := hK
              replace hK : K e w G ((b50, row [.int .i64 (8 * k45 + k48)] 3) :: (A0 ++ ((rb, row [cva, .int .i64 (p + 1 + 1 + 1 + 1)] 91) :: (A ++ (flat us1 ++ L))))) := hK.cnt fun f => by simp only [flat_cons, flat_snoc, List.map_append, List.map_cons, List.sum_append, List.sum_cons]; omega
              refine ap1 (news := [.int .i64 (8 * k45 + k48)]) hK Try.underlying24 Ty.i3 rfl rfl rfl hv0 rfl rfl rfl (by first | omega | (simp only; omega)) fun v' A0' w ho0 hK => ?_
              refine xn (fun _ => True) trivial (fun _ _ => trivial) ?_
              refine xt (i := 12) (l' := [true, true, true, true, true, true, true, true, true, true, true, true, true, false]) rfl (by kernel_rfl) rfl rfl (fun w _ => (ixn1 Try.underlying23 Ty.s24 rfl ho.slw rfl (by first | omega | (simp only; omega)))) trivial <| ?_
              refine xe (i := 13) (l' := [true, true, true, true, true, true, true, true, true, true, true, true, true, true]) (by kernel_rfl) rfl rfl ?_
              replace hK : K e w G (A ++ ((rb, row [cva, .int .i64 (p + 1 + 1 + 1 + 1)] 91) :: (A0' ++ (flat us1 ++ L)))) := hK.cnt fun f => by simp only [flat_cons, flat_snoc, List.map_append, List.map_cons, List.sum_append, List.sum_cons]; omega
              refine osSet hK ho (i := 0) (u := v') (by first | omega | (simp only; omega)) Ty.i24 rfl rfl rfl ho0.one fun A' w ho' hK => ?_
              refine xn (fun _ => True) trivial (fun _ _ => trivial) ?_
              refine xd (by kernel_rfl) <| ctn <| ?_
              refine ⟨(p + 1 + 1 + 1 + 1, vo, (v', xs0 ++ [8 * k45 + k48], A0') :: us1, A'), ⟨rfl, trivial⟩, by simp only; omega, by simp only; omega, by simp only [List.length_cons] at h4 ⊢; omega, ?_, ?_, ?_⟩
              · intro x hx
                rcases List.mem_cons.1 hx with rfl | hx
                · simpa [ints] using ho0
                · exact hu x (List.mem_cons_of_mem _ hx)
              · show OS 1 _ vo (us1.length + 1) (v' :: vals us1) A'
                rw [show us1.length + 1 = i from h4]; exact ho'
              · exact hK.cnt fun f => by simp only [flat_cons, flat_snoc, List.map_append, List.map_cons, List.sum_append, List.sum_cons]; omega
            · refine cl Try.call56 rfl (pickN_c hK hcode hlen (by first | omega | (simp only; omega)) (by first | omega | (simp only; omega)) (by first | omega | (simp only; omega))) ?_
              rintro _ w ⟨⟨k48, rfl, hk48, hkn48⟩, hK⟩
              refine xn (fun _ => True) trivial (fun _ _ => trivial) ?_
              refine xt (i := 9) (l' := [true, true, true, false, true, true, true, true, true, true, false, false, false, false]) rfl (by kernel_rfl) rfl rfl (fun w _ => (ad rfl rfl (by first | omega | (simp only; omega)) (by first | omega | (simp only; omega)))) trivial <| ?_
              refine xe2 (i := 3) (j := 10) (l' := [true, true, true, true, true, true, true, true, true, true, false, false, false, false]) (l2 := [true, true, true, false, true, true, true, true, true, true, true, false, false, false]) (by kernel_rfl) rfl rfl rfl rfl ?_ ?_
              · skip
                refine vl (ldC Ty.o24 rfl (ho.cell (K.mid1 hK) (j := 0) rfl)) <| ?_
                refine xn (fun _ => True) trivial (fun _ _ => trivial) ?_
                refine xe (i := 10) (l' := [true, true, true, true, true, true, true, true, true, true, true, false, false, false]) (by kernel_rfl) rfl rfl ?_
                refine bsN [.tmp 49] hK Try.underlying24 Ty.i3 rfl rfl rfl rfl rfl rfl rfl rfl ?_
                intro b50 w hK
                refine xn (fun _ => True) trivial (fun _ _ => trivial) ?_
                refine xe (i := 11) (l' := [true, true, true, true, true, true, true, true, true, true, true, true, false, false]) (by kernel_rfl) rfl rfl ?_
                replace hK : K e w G ((b50, row [.int .i64 (8 * k45 + k48)] 3) :: (rb, row [cva, .int .i64 (p + 1 + 1 + 1 + 1)] 91) :: (A ++ (flat ((v0, xs0, A0) :: us1) ++ L))) := hK
                replace hK : K e w G ((b50, row [.int .i64 (8 * k45 + k48)] 3) :: (A0 ++ ((rb, row [cva, .int .i64 (p + 1 + 1 + 1 + 1)] 91) :: (A ++ (flat us1 ++ L))))) := hK.cnt fun f => by simp only [flat_cons, flat_snoc, List.map_append, List.map_cons, List.sum_append, List.sum_cons]; omega
                refine ap1 (news := [.int .i64 (8 * k45 + k48)]) hK Try.underlying24 Ty.i3 rfl rfl rfl hv0 rfl rfl rfl (by first | omega | (simp only; omega)) fun v' A0' w ho0 hK => ?_
                refine xn (fun _ => True) trivial (fun _ _ => trivial) ?_
                refine xt (i := 12) (l' := [true, true, true, true, true, true, true, true, true, true, true, true, true, false]) rfl (by kernel_rfl) rfl rfl (fun w _ => (ixn1 Try.underlying23 Ty.s24 rfl ho.slw rfl (by first | omega | (simp only; omega)))) trivial <| ?_
                refine xe (i := 13) (l' := [true, true, true, true, true, true, true, true, true, true, true, true, true, true]) (by kernel_rfl) rfl rfl ?_
                replace hK : K e w G (A ++ ((rb, row [cva, .int .i64 (p + 1 + 1 + 1 + 1)] 91) :: (A0' ++ (flat us1 ++ L)))) := hK.cnt fun f => by simp only [flat_cons, flat_snoc, List.map_append, List.map_cons, List.sum_append, List.sum_cons]; omega
                refine osSet hK ho (i := 0) (u := v') (by first | omega | (simp only; omega)) Ty.i24 rfl rfl rfl ho0.one fun A' w ho' hK => ?_
                refine xn (fun _ => True) trivial (fun _ _ => trivial) ?_
                refine xd (by kernel_rfl) <| ctn <| ?_
                refine ⟨(p + 1 + 1 + 1 + 1, vo, (v', xs0 ++ [8 * k45 + k48], A0') :: us1, A'), ⟨rfl, trivial⟩, by simp only; omega, by simp only; omega, by simp only [List.length_cons] at h4 ⊢; omega, ?_, ?_, ?_⟩
                · intro x hx
                  rcases List.mem_cons.1 hx with rfl | hx
                  · simpa [ints] using ho0
                  · exact hu x (List.mem_cons_of_mem _ hx)
                · show OS 1 _ vo (us1.length + 1) (v' :: vals us1) A'
                  rw [show us1.length + 1 = i from h4]; exact ho'
                · exact hK.cnt fun f => by simp only [flat_cons, flat_snoc, List.map_append, List.map_cons, List.sum_append, List.sum_cons]; omega
              · skip
                refine bsN [.tmp 49] hK Try.underlying24 Ty.i3 rfl rfl rfl rfl rfl rfl rfl rfl ?_
                intro b50 w hK
                refine xn (fun _ => True) trivial (fun _ _ => trivial) ?_
                refine xe (i := 3) (l' := [true, true, true, true, true, true, true, true, true, true, true, false, false, false]) (by kernel_rfl) rfl rfl ?_
                refine vl (ldC Ty.o24 rfl (ho.cell (K.mid1 (K.drop1 hK)) (j := 0) rfl)) <| ?_
                refine xn (fun _ => True) trivial (fun _ _ => trivial) ?_
                refine xe (i := 11) (l' := [true, true, true, true, true, true, true, true, true, true, true, true, false, false]) (by kernel_rfl) rfl rfl ?_
                replace hK : K e w G ((b50, row [.int .i64 (8 * k45 + k48)] 3) :: (rb, row [cva, .int .i64 (p + 1 + 1 + 1 + 1)] 91) :: (A ++ (flat ((v0, xs0, A0) :: us1) ++ L))) := hK
                replace hK : K e w G ((b50, row [.int .i64 (8 * k45 + k48)] 3) :: (A0 ++ ((rb, row [cva, .int .i64 (p + 1 + 1 + 1 + 1)] 91) :: (A ++ (flat us1 ++ L))))) := hK.cnt fun f => by simp only [flat_cons, flat_snoc, List.map_append, List.map_cons, List.sum_append, List.sum_cons]; omega
                refine ap1 (news := [.int .i64 (8 * k45 + k48)]) hK Try.underlying24 Ty.i3 rfl rfl rfl hv0 rfl rfl rfl (by first | omega | (simp only; omega)) fun v' A0' w ho0 hK => ?_
                refine xn (fun _ => True) trivial (fun _ _ => trivial) ?_
                refine xt (i := 12) (l' := [true, true, true, true, true, true, true, true, true, true, true, true, true, false]) rfl (by kernel_rfl) rfl rfl (fun w _ => (ixn1 Try.underlying23 Ty.s24 rfl ho.slw rfl (by first | omega | (simp only; omega)))) trivial <| ?_
                refine xe (i := 13) (l' := [true, true, true, true, true, true, true, true, true, true, true, true, true, true]) (by kernel_rfl) rfl rfl ?_
                replace hK : K e w G (A ++ ((rb, row [cva, .int .i64 (p + 1 + 1 + 1 + 1)] 91) :: (A0' ++ (flat us1 ++ L)))) := hK.cnt fun f => by simp only [flat_cons, flat_snoc, List.map_append, List.map_cons, List.sum_append, List.sum_cons]; omega
                refine osSet hK ho (i := 0) (u := v') (by first | omega | (simp only; omega)) Ty.i24 rfl rfl rfl ho0.one fun A' w ho' hK => ?_
                refine xn (fun _ => True) trivial (fun _ _ => trivial) ?_
                refine xd (by kernel_rfl) <| ctn <| ?_
                refine ⟨(p + 1 + 1 + 1 + 1, vo, (v', xs0 ++ [8 * k45 + k48], A0') :: us1, A'), ⟨rfl, trivial⟩, by simp only; omega, by simp only; omega, by simp only [List.length_cons] at h4 ⊢; omega, ?_, ?_, ?_⟩
                · intro x hx
                  rcases List.mem_cons.1 hx with rfl | hx
                  · simpa [ints] using ho0
                  · exact hu x (List.mem_cons_of_mem _ hx)
                · show OS 1 _ vo (us1.length + 1) (v' :: vals us1) A'
                  rw [show us1.length + 1 = i from h4]; exact ho'
                · exact hK.cnt fun f => by simp only [flat_cons, flat_snoc, List.map_append, List.map_cons, List.sum_append, List.sum_cons]; omega
        · refine sk <| ctn <| ?_
          exact ⟨(p + 1 + 1, vo, us, A), ⟨rfl, trivial⟩, by first | omega | (simp only; omega), by first | omega | (simp only; omega), by first | omega | (simp only; omega), hu, h4 ▸ ho, hK⟩
      · refine sq <| rg <| ?_
        refine vl (eq rfl rfl) <| vl (asv (v := .bool _) rfl) <| nl <| thn <| ?_
        refine cdP rfl (fun h1 => ?_) (fun h1 => ?_)
        · skip
          refine rg <| ?_
          refine vl mv <| vl mv <| ?_
          refine cl Try.call83 rfl (l91Point_c hK hcode hlen (by first | omega | (simp only; omega)) (by first | omega | (simp only; omega))) ?_
          rintro _ w ⟨k57, p57, rfl, hk57, hkn57, hp57, hq57, hK⟩
          refine bsN [.tmp 57] hK Try.underlying24 Ty.i3 rfl rfl rfl rfl rfl rfl rfl rfl ?_
          intro b58 w hK
          refine bsN [.tmp 58] hK Try.underlying23 Ty.i24 rfl rfl rfl rfl (show ([.slice (some ⟨b58, 0, none⟩) 1 1] : List Value).all Ro.one = true from rfl) rfl rfl rfl ?_
          intro b59 w hK
          replace hK : K e w G ((b59, row [.slice (some ⟨b58, 0, none⟩) 1 1] 24) :: (b58, row [.int .i64 k57] 3) :: (rb, row [cva, .int .i64 p57] 91) :: (A ++ (flat us ++ L))) := hK
          replace hK : K e w G ((b59, row [.slice (some ⟨b58, 0, none⟩) 1 1] 24) :: (A ++ ((rb, row [cva, .int .i64 p57] 91) :: (flat (us ++ [(.slice (some ⟨b58, 0, none⟩) 1 1, [k57], [(b58, row [.int .i64 k57] 3)])]) ++ L)))) := hK.cnt fun f => by simp only [flat_cons, flat_snoc, List.map_append, List.map_cons, List.sum_append, List.sum_cons]; simp only [List.map_nil, List.sum_nil]; omega
          refine ap1 (news := [.slice (some ⟨b58, 0, none⟩) 1 1]) hK Try.underlying23 Ty.i24 rfl rfl rfl ho rfl rfl rfl (by first | omega | (simp only; omega)) fun v' A' w ho' hK => ?_
          refine vl asg <| nl <| ctn <| ?_
          refine ⟨(p57, v', us ++ [(.slice (some ⟨b58, 0, none⟩) 1 1, [k57], [(b58, row [.int .i64 k57] 3)])], A'), ⟨rfl, trivial⟩, by simp only; omega, by simp only; omega, by simp; omega, hu.snoc (OS.lit rfl (by simp)), ?_, K.back1 hK⟩
          rw [vals_snoc, List.length_append, List.length_singleton, h4]; exact ho'
        · refine sq <| rg <| ?_
          refine vl (eq rfl rfl) <| vl (asv (v := .bool _) rfl) <| nl <| thn <| ?_
          refine cdP rfl (fun h2 => ?_) (fun h2 => ?_)
          · refine rg <| ?_
            refine vl mv <| vl mv <| ?_
            refine cl Try.call56 rfl (pickN_c hK hcode hlen (by first | omega | (simp only; omega)) (by first | omega | (simp only; omega)) (by first | omega | (simp only; omega))) ?_
            rintro _ w ⟨⟨k65, rfl, hk65, hkn65⟩, hK⟩
            refine vl (ad rfl rfl (by first | omega | (simp only; omega)) (by first | omega | (simp only; omega))) <| ?_
            obtain ⟨m65, rfl⟩ : ∃ m : Nat, k65 = m := ⟨k65.toNat, by omega⟩
            refine mks (m := 10 + m65) hK Try.underlying24 Ty.i3 rfl rfl rfl rfl rfl (by first | omega | (simp only; omega)) rfl fun b67 w ho67 hK => ?_
            rw [List.flatten_replicate_singleton] at hK ho67
            refine bsN [.tmp 67] hK Try.underlying23 Ty.i24 rfl rfl rfl rfl (show ([.slice (some ⟨b67, 0, none⟩) (10 + m65) (10 + m65)] : List Value).all Ro.one = true from rfl) rfl rfl rfl ?_
            intro b68 w hK
            replace hK : K e w G ((b68, row [.slice (some ⟨b67, 0, none⟩) (10 + m65) (10 + m65)] 24) :: (b67, row (List.replicate (10 + m65) (.int .i64 0)) 3) :: (rb, row [cva, .int .i64 (p + 1 + 1 + 1)] 91) :: (A ++ (flat us ++ L))) := hK
            rw [show List.replicate (10 + m65) (Value.int .i64 0) = ints (List.replicate (10 + m65) 0) by simp [ints]] at hK
            replace ho67 : OS 1 3 (.slice (some ⟨b67, 0, none⟩) (10 + m65) (10 + m65)) (10 + m65) (ints (List.replicate (10 + m65) 0)) [(b67, row (ints (List.replicate (10 + m65) 0)) 3)] := by simpa [ints] using ho67
            replace hK : K e w G ((b68, row [.slice (some ⟨b67, 0, none⟩) (10 + m65) (10 + m65)] 24) :: (A ++ ((rb, row [cva, .int .i64 (p + 1 + 1 + 1)] 91) :: (flat (us ++ [(.slice (some ⟨b67, 0, none⟩) (10 + m65) (10 + m65), List.replicate (10 + m65) 0, [(b67, row (ints (List.replicate (10 + m65) 0)) 3)])]) ++ L)))) := hK.cnt fun f => by simp only [flat_cons, flat_snoc, List.map_append, List.map_cons, List.sum_append, List.sum_cons]; simp only [List.map_nil, List.sum_nil]; omega
            refine ap1 (news := [.slice (some ⟨b67, 0, none⟩) (10 + m65) (10 + m65)]) hK Try.underlying23 Ty.i24 rfl rfl rfl ho rfl rfl rfl (by first | omega | (simp only; omega)) fun v' A' w ho' hK => ?_
            refine vl asg <| nl <| ctn <| ?_
            refine ⟨(p + 1 + 1 + 1, v', us ++ [(.slice (some ⟨b67, 0, none⟩) (10 + m65) (10 + m65), List.replicate (10 + m65) 0, [(b67, row (ints (List.replicate (10 + m65) 0)) 3)])], A'), ⟨rfl, trivial⟩, by simp only; omega, by simp only; omega, by simp; omega, hu.snoc (by rw [List.length_replicate]; exact ho67), ?_, K.back1 hK⟩
            rw [vals_snoc, List.length_append, List.length_singleton, h4]; exact ho'
          · refine sk <| ctn <| ?_
            exact ⟨(p + 1 + 1, vo, us, A), ⟨rfl, trivial⟩, by first | omega | (simp only; omega), by first | omega | (simp only; omega), by first | omega | (simp only; omega), hu, h4 ▸ ho, hK⟩
    · rintro ⟨p', vo', us', A'⟩ g w ⟨g1, g2, g3, g4, g5, hK⟩
      refine bkn <| thn <| sq <| rg <| ?_
      refine vl mv <| vl asg <| nl <| thn <| rt <| p1r (a := _) rfl <| ?_
      simp only at g1 g2 g3 g4 g5 hK
      obtain ⟨G', hG, hx, hK⟩ := K.pubW (L := (rb, row [cva, .int .i64 p'] 91) :: L) g4 g5 (hK.cnt fun f => by simp only [List.map_append, List.map_cons, List.sum_append, List.sum_cons]; omega)
      exact ⟨G', _, p', hG, hx, by simpa using g3, g1, g2, hK⟩

end
end Go.Proofs.Ytemeepjdjaabmaa