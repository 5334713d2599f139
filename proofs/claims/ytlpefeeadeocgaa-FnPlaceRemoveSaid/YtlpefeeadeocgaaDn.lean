/- Contracts: nodes drawn. Conditions: those that each row states. -/
import Derived.Test.YtlpefeeadeocgaaNv
import Derived.Test.YtlpefeeadeocgaaDs
namespace Go.Proofs.Ytlpefeeadeocgaa
open Go Go.Ro

section
variable {e w : World} {G : View} {L A : Own} {v u cva : Value} {code xs ys : List Int} {a b k id other p m : Int} {i j bk o rb : Nat}

theorem l91Good_c (hK : K e w G ((rb, row [cva, .int .i64 p] 55) :: L)) (hcode : BytS G cva code) (hlen : code.length ≤ 2000) (h0 : 0 ≤ p) (h1 : p ≤ 900000000) (m1 : 1 ≤ m) (m3 : m ≤ 3) :
  Ret Try.prog 36 #[.pointer (some ⟨rb, 0, none⟩), .int .i64 m] w (fun r w' => ∃ G' xs A p', VLe G G' ∧ OS 1 3 r xs.length (ints xs) A ∧ Asc xs ∧ m ≤ xs.length ∧ xs.length ≤ 10 ∧ p ≤ p' ∧ p' ≤ p + 20 ∧ K e w' G' ((rb, row [cva, .int .i64 p'] 55) :: (A ++ L))) := by
 refine enter1 (args := [.pointer (some ⟨rb, 0, none⟩), .int .i64 m]) Try.func36 rfl rfl rfl rfl ?_
 refine sq <| rg <| ?_
 refine vl asg <| nl <| thn <| sq <| rg <| ?_
 refine bs0 hK Try.underlying23 Ty.i3 ?_
 intro b10 w hK
 refine vl asg <| nl <| thn <| sq <| rg <| vl (mI rfl) <| vl mv <| vl (mI rfl) <| vl (sb rfl rfl) <| ?_
 refine cl Try.call25 rfl (pickJ_c 1 hK rfl hcode hlen om om om) ?_
 rintro _ w ⟨⟨k15, rfl, hk15, hkn15⟩, hK⟩
 refine vl (ad rfl rfl) <| vl (aI rfl) <| nl <| thn <| sq <| sq <| rg <| vl (aI rfl) <| nl <| thn <| bk <| ?_
 replace hK := K.swp hK
 refine lp (σ := Nat × View × Value × List Int × Own) (fun s => [(0, .pointer (some ⟨rb, 0, none⟩)), (5, s.2.2.1), (6, .int .i64 (m + k15)), (7, .int .i64 (s.1 : Int))]) (fun s w => (s.1 : Int) ≤ m + k15 ∧ VLe G s.2.1 ∧ OS 1 3 s.2.2.1 s.2.2.2.1.length (ints s.2.2.2.1) s.2.2.2.2 ∧ Asc s.2.2.2.1 ∧ s.2.2.2.1.length = s.1 ∧ K e w s.2.1 ((rb, row [cva, .int .i64 (p + 1 + (s.1 : Int))] 55) :: (s.2.2.2.2 ++ L))) (fun s => (m + k15).toNat - s.1) (0, G, .slice (some ⟨b10, 0, none⟩) 0 0, [], [(b10, row [] 3)]) ⟨rfl, rfl, rfl, rfl, trivial⟩ ⟨by simp only; omega, VLe.refl _, OS.none, Asc.nil, rfl, by simpa using hK⟩ ?_
 rintro ⟨i, G1, u, xs, A⟩ g w ⟨hi, hG1, ho, has, hxl, hK⟩
 simp only at hi hG1 ho has hxl hK
 replace hcode := hcode.mono hG1
 refine sq <| sq <| rg <| ?_
 refine vl (mI rfl) <| vl (mI rfl) <| vl (lt rfl rfl) <| nl <| thn <| ?_
 refine cdP rfl (fun hc => ?_) (fun hc => ?_)
 ·have hi' : (i : Int) < m + k15 := by simp only at hc; omega
  refine sk <| thn <| sq <| bk <| sq <| rg <| ?_
  refine vl mv <| ?_
  refine cl Try.call25 rfl (pickN_c hK hcode hlen om om om) ?_
  rintro _ w ⟨⟨k23, rfl, hk23, hkn23⟩, hK⟩
  refine vl (aI rfl) <| nl <| thn <| sq <| bk <| ?_
  obtain ⟨G2, hG2, hx, hK⟩ := K.pubO (K.mid (A := [_]) (B := A) hK) ho
  have hxs := has.len
  obtain ⟨d0, hd0⟩ := freeAt (xs := xs) (by omega) k23
  refine lp (σ := Nat) (fun j => [(0, .pointer (some ⟨rb, 0, none⟩)), (5, u), (6, .int .i64 (m + k15)), (7, .int .i64 (i : Int)), (8, .int .i64 ((k23 + (j : Int)) % 64))]) (fun j w => j ≤ d0 ∧ K e w G2 ((rb, row [cva, .int .i64 (p + 1 + (i : Int) + 1)] 55) :: L)) (fun j => d0 - j) 0 ⟨rfl, rfl, rfl, rfl, congrArg (Value.int .i64) om, trivial⟩ ⟨Nat.zero_le _, hK⟩ ?_
  rintro j g w ⟨hj, hK⟩
  refine sq <| sq <| rg <| ?_
  refine vl mv <| vl (mI rfl) <| ?_
  refine cl Try.call42 rfl (l1Has_c hK (by assumption)) ?_
  rintro _ w ⟨rfl, hK⟩
  refine nl <| thn <| ?_
  refine cdP rfl (fun hx2 => ?_) (fun hx2 => ?_)
  ·have hjd : j ≠ d0 := fun e => hd0 (e ▸ hx2)
   refine sk <| thn <| bk <| rg <| ?_
   refine vl (mI rfl) <| vl (ad rfl rfl) <| vl (rm rfl rfl) <| vl (aI rfl) <| nl <| bkn <| thn <| ?_
   exact ⟨j + 1, ⟨rfl, rfl, rfl, rfl, congrArg (Value.int .i64) (by omega), trivial⟩, ⟨by omega, hK⟩, by omega⟩
  ·have hpp : Pt ((k23 + (j : Int)) % 64) := ⟨by omega, by omega⟩
   refine ex <| the <| the <| bkh <| thn <| sq <| rg <| ?_
   refine vl (aI rfl) <| nl <| thn <| sq <| bk <| ?_
   generalize hppe : ((k23 + (j : Int)) % 64) = pp at *
   refine lp (σ := Nat) (fun k => [(0, .pointer (some ⟨rb, 0, none⟩)), (5, u), (6, .int .i64 (m + k15)), (7, .int .i64 (i : Int)), (8, .int .i64 pp), (9, .int .i64 (k : Int))]) (fun k w => k ≤ xs.length ∧ (∀ x ∈ xs.take k, x < pp) ∧ K e w G2 ((rb, row [cva, .int .i64 (p + 1 + (i : Int) + 1)] 55) :: L)) (fun k => xs.length - k) 0 ⟨rfl, rfl, rfl, rfl, rfl, rfl, trivial⟩ ⟨Nat.zero_le _, by simp, hK⟩ ?_
   rintro k g w ⟨hk, hka, hK⟩
   refine sq <| sq <| rg <| ?_
   refine vl (mI rfl) <| vl mv <| vl (ln Try.underlying23 rfl hx.len) <| vl (lt rfl rfl) <| vl (mB rfl) <| ?_
   refine splP (t := 34) rfl (fun h5 => ?_) (fun h5 => ?_)
   ·have hk' : k < xs.length := by omega
    refine gy rfl <| vl mv <| gy rfl <| vl (mI rfl) <| gy rfl <| vl (ixn1 Try.underlying23 Ty.s3 rfl hx.1 rfl om) <| gy rfl <| vl (ldV hK Ty.o3 rfl (hx.at om)) <| gy rfl <| vl (mI rfl) <| gy rfl <| vl (lt rfl rfl) <| vl (pk rfl) <| nl <| thn <| ?_
    refine cdP rfl (fun h6 => ?_) (fun h6 => ?_)
    ·refine sk <| thn <| bk <| rg <| ?_
     refine vl (mI rfl) <| vl (ad rfl rfl) <| vl (aI rfl) <| nl <| bkn <| thn <| ?_
     exact ⟨k + 1, ⟨rfl, rfl, rfl, rfl, rfl, rfl, trivial⟩, ⟨hk', all_snoc hk' hka h6, hK⟩, by omega⟩
    ·have hge : ∀ hk : k < xs.length, ¬ xs[k] < pp := fun _ => h6
     have hins : ([] ++ (xs.take k).drop 0 ++ [pp] ++ (xs.take xs.length).drop k) = xs.take k ++ pp :: xs.drop k := by rw [List.drop_zero, List.nil_append, List.take_length, List.append_assoc]; rfl
     refine ex <| the <| the <| bkh <| thn <| ?_
     refine ct (σ := Value) (fun s => [(0, .pointer (some ⟨rb, 0, none⟩)), (5, s), (6, .int .i64 (m + k15)), (7, .int .i64 (i : Int))]) (fun s w => ∃ A', OS 1 3 s (xs.take k ++ pp :: xs.drop k).length (ints (xs.take k ++ pp :: xs.drop k)) A' ∧ K e w G2 ((rb, row [cva, .int .i64 (p + 1 + (i : Int) + 1)] 55) :: (A' ++ L))) ?_ ?_
     ·skip
      refine rgs (fun w => K e w G2 L) (fun w => K _ w _ _) [U,U,U,U,U,U,U,U,U,U,U,U,U] 13 Ty.mixed rfl rfl (hK.drawn _) ?_
      intro w hK
      have hS : (fun w => K e w G2 L) w := (by first | exact hK.drop1 | exact hK.drop1.drop1 | exact hK.drop1.drop1.drop1 | exact (K.dropL hK).drop1 | exact (K.dropL hK).drop1.drop1 | exact (K.dropL hK.drop1).drop1)
      refine xt (i := 1) rfl kr rfl rfl (fun w hK => mv) hS <| ?_; refine xt (i := 2) rfl kr rfl rfl (fun w hK => (mI rfl)) hS <| ?_; refine xt (i := 3) rfl kr rfl rfl (fun w hK => (slHi (h := k) Try.underlying23 Ty.s3 rfl hx.1 rfl om)) hS <| ?_; refine xt (i := 5) rfl kr rfl rfl (fun w hK => (mI rfl)) hS <| ?_; refine xt (i := 8) rfl kr rfl rfl (fun w hK => mv) hS <| ?_; refine xt (i := 9) rfl kr rfl rfl (fun w hK => (mI rfl)) hS <| ?_; refine xt (i := 10) rfl kr rfl rfl (fun w hK => (slLo (l := k) Try.underlying23 Ty.s3 rfl hx.1 rfl om)) hS <| ?_
      refine xe2 (i := 0) (j := 6) kr rfl rfl rfl rfl ?_ ?_
      ·refine bs0 hK Try.underlying23 Ty.i3 ?_
       intro b44 w hK
       refine xnk ((by first | exact hK.drop1 | exact hK.drop1.drop1 | exact hK.drop1.drop1.drop1 | exact (K.dropL hK).drop1 | exact (K.dropL hK).drop1.drop1 | exact (K.dropL hK.drop1).drop1)) fun hS => ?_
       refine xe2 (i := 4) (j := 6) kr rfl rfl rfl rfl ?_ ?_
       ·skip
        refine apI (A := [(b44, row [] 3)]) (xs := []) hK Try.underlying23 Ty.i3 rfl rfl OS.none rfl (hx.slc (Nat.zero_le _) hk) (by simp; omega) fun v1 A1 w ho1 hK => ?_
        refine xnk ((by first | exact hK.drop1 | exact hK.drop1.drop1 | exact hK.drop1.drop1.drop1 | exact (K.dropL hK).drop1 | exact (K.dropL hK).drop1.drop1 | exact (K.dropL hK.drop1).drop1)) fun hS => ?_
        refine xe (i := 6) kr rfl rfl ?_
        refine bsN [.tmp 49] hK Try.underlying23 Ty.i3 rfl rfl rfl rfl rfl rfl rfl rfl ?_
        intro b50 w hK
        refine xnk ((by first | exact hK.drop1 | exact hK.drop1.drop1 | exact hK.drop1.drop1.drop1 | exact (K.dropL hK).drop1 | exact (K.dropL hK).drop1.drop1 | exact (K.dropL hK.drop1).drop1)) fun hS => ?_
        refine xe (i := 7) kr rfl rfl ?_
        refine apI1 (A := A1) (xs := [] ++ (xs.take k).drop 0) (k := pp) hK Try.underlying23 Ty.i3 rfl rfl ho1 rfl (by simp; omega) fun v2 A2 w ho2 hK => ?_
        refine xnk ((by first | exact hK.drop1 | exact hK.drop1.drop1 | exact hK.drop1.drop1.drop1 | exact (K.dropL hK).drop1 | exact (K.dropL hK).drop1.drop1 | exact (K.dropL hK.drop1).drop1)) fun hS => ?_
        refine xe (i := 11) kr rfl rfl ?_
        refine apI hK Try.underlying23 Ty.i3 rfl rfl ho2 rfl (hx.slc hk (Nat.le_refl _)) (by simp; omega) fun v3 A3 w ho3 hK => ?_
        refine xnk ((by first | exact hK.drop1 | exact hK.drop1.drop1 | exact hK.drop1.drop1.drop1 | exact (K.dropL hK).drop1 | exact (K.dropL hK).drop1.drop1 | exact (K.dropL hK.drop1).drop1)) fun hS => ?_
        refine xt (i := 12) rfl kr rfl rfl (fun w hK => asg) hS <| ?_; refine xd kr <| ctn <| ?_
        exact ⟨v3, ⟨rfl, rfl, rfl, rfl, trivial⟩, A3, by rw [← hins]; exact ho3, K.mid (A := A3) (B := [_]) hK⟩
       ·refine bsN [.tmp 49] hK Try.underlying23 Ty.i3 rfl rfl rfl rfl rfl rfl rfl rfl ?_
        intro b50 w hK
        refine xnk ((by first | exact hK.drop1 | exact hK.drop1.drop1 | exact hK.drop1.drop1.drop1 | exact (K.dropL hK).drop1 | exact (K.dropL hK).drop1.drop1 | exact (K.dropL hK.drop1).drop1)) fun hS => ?_
        refine xe (i := 4) kr rfl rfl ?_
        refine apI (A := [(b44, row [] 3)]) (xs := []) (K.swp hK) Try.underlying23 Ty.i3 rfl rfl OS.none rfl (hx.slc (Nat.zero_le _) hk) (by simp; omega) fun v1 A1 w ho1 hK => ?_
        refine xnk ((by first | exact hK.drop1 | exact hK.drop1.drop1 | exact hK.drop1.drop1.drop1 | exact (K.dropL hK).drop1 | exact (K.dropL hK).drop1.drop1 | exact (K.dropL hK.drop1).drop1)) fun hS => ?_
        refine xe (i := 7) kr rfl rfl ?_
        refine apI1 (A := A1) (xs := [] ++ (xs.take k).drop 0) (k := pp) (K.mid (A := A1) (B := [_]) hK) Try.underlying23 Ty.i3 rfl rfl ho1 rfl (by simp; omega) fun v2 A2 w ho2 hK => ?_
        refine xnk ((by first | exact hK.drop1 | exact hK.drop1.drop1 | exact hK.drop1.drop1.drop1 | exact (K.dropL hK).drop1 | exact (K.dropL hK).drop1.drop1 | exact (K.dropL hK.drop1).drop1)) fun hS => ?_
        refine xe (i := 11) kr rfl rfl ?_
        refine apI hK Try.underlying23 Ty.i3 rfl rfl ho2 rfl (hx.slc hk (Nat.le_refl _)) (by simp; omega) fun v3 A3 w ho3 hK => ?_
        refine xnk ((by first | exact hK.drop1 | exact hK.drop1.drop1 | exact hK.drop1.drop1.drop1 | exact (K.dropL hK).drop1 | exact (K.dropL hK).drop1.drop1 | exact (K.dropL hK.drop1).drop1)) fun hS => ?_
        refine xt (i := 12) rfl kr rfl rfl (fun w hK => asg) hS <| ?_; refine xd kr <| ctn <| ?_
        exact ⟨v3, ⟨rfl, rfl, rfl, rfl, trivial⟩, A3, by rw [← hins]; exact ho3, K.mid (A := A3) (B := [_]) hK⟩
      ·refine bsN [.tmp 49] hK Try.underlying23 Ty.i3 rfl rfl rfl rfl rfl rfl rfl rfl ?_
       intro b50 w hK
       refine xnk ((by first | exact hK.drop1 | exact hK.drop1.drop1 | exact hK.drop1.drop1.drop1 | exact (K.dropL hK).drop1 | exact (K.dropL hK).drop1.drop1 | exact (K.dropL hK.drop1).drop1)) fun hS => ?_
       refine xe (i := 0) kr rfl rfl ?_
       refine bs0 hK Try.underlying23 Ty.i3 ?_
       intro b44 w hK
       refine xnk ((by first | exact hK.drop1 | exact hK.drop1.drop1 | exact hK.drop1.drop1.drop1 | exact (K.dropL hK).drop1 | exact (K.dropL hK).drop1.drop1 | exact (K.dropL hK.drop1).drop1)) fun hS => ?_
       refine xe (i := 4) kr rfl rfl ?_
       refine apI (A := [(b44, row [] 3)]) (xs := []) hK Try.underlying23 Ty.i3 rfl rfl OS.none rfl (hx.slc (Nat.zero_le _) hk) (by simp; omega) fun v1 A1 w ho1 hK => ?_
       refine xnk ((by first | exact hK.drop1 | exact hK.drop1.drop1 | exact hK.drop1.drop1.drop1 | exact (K.dropL hK).drop1 | exact (K.dropL hK).drop1.drop1 | exact (K.dropL hK.drop1).drop1)) fun hS => ?_
       refine xe (i := 7) kr rfl rfl ?_
       refine apI1 (A := A1) (xs := [] ++ (xs.take k).drop 0) (k := pp) (K.mid (A := A1) (B := [_]) hK) Try.underlying23 Ty.i3 rfl rfl ho1 rfl (by simp; omega) fun v2 A2 w ho2 hK => ?_
       refine xnk ((by first | exact hK.drop1 | exact hK.drop1.drop1 | exact hK.drop1.drop1.drop1 | exact (K.dropL hK).drop1 | exact (K.dropL hK).drop1.drop1 | exact (K.dropL hK.drop1).drop1)) fun hS => ?_
       refine xe (i := 11) kr rfl rfl ?_
       refine apI hK Try.underlying23 Ty.i3 rfl rfl ho2 rfl (hx.slc hk (Nat.le_refl _)) (by simp; omega) fun v3 A3 w ho3 hK => ?_
       refine xnk ((by first | exact hK.drop1 | exact hK.drop1.drop1 | exact hK.drop1.drop1.drop1 | exact (K.dropL hK).drop1 | exact (K.dropL hK).drop1.drop1 | exact (K.dropL hK.drop1).drop1)) fun hS => ?_
       refine xt (i := 12) rfl kr rfl rfl (fun w hK => asg) hS <| ?_; refine xd kr <| ctn <| ?_
       exact ⟨v3, ⟨rfl, rfl, rfl, rfl, trivial⟩, A3, by rw [← hins]; exact ho3, K.mid (A := A3) (B := [_]) hK⟩
     ·rintro s g w ⟨A', ho', hK⟩
      refine bkn <| thn <| rg <| ?_
      refine vl (mI rfl) <| vl (ad rfl rfl) <| vl (aI rfl) <| nl <| thn <| ?_
      exact ⟨(i + 1, G2, s, xs.take k ++ pp :: xs.drop k, A'), ⟨rfl, rfl, rfl, rfl, trivial⟩, ⟨by simp only; omega, hG1.trans hG2, ho', has.ins hpp hk hka hge hx2, by simp; omega, by
       have : (p + 1 + ((i + 1 : Nat) : Int)) = p + 1 + (i : Int) + 1 := by omega
       simp only; rw [this]; exact hK⟩, by simp only; omega⟩
   ·have hk' : k = xs.length := by omega
    have hge : ∀ hk : k < xs.length, ¬ xs[k] < pp := fun h => by omega
    have hins : ([] ++ (xs.take k).drop 0 ++ [pp] ++ (xs.take xs.length).drop k) = xs.take k ++ pp :: xs.drop k := by rw [List.drop_zero, List.nil_append, List.take_length, List.append_assoc]; rfl
    refine gn rfl <| gn rfl <| gn rfl <| gn rfl <| gn rfl <| gn rfl <| vl (pk rfl) <| nl <| thn <| ?_
    refine cdf rfl ?_
    refine ex <| the <| the <| bkh <| thn <| ?_
    refine ct (σ := Value) (fun s => [(0, .pointer (some ⟨rb, 0, none⟩)), (5, s), (6, .int .i64 (m + k15)), (7, .int .i64 (i : Int))]) (fun s w => ∃ A', OS 1 3 s (xs.take k ++ pp :: xs.drop k).length (ints (xs.take k ++ pp :: xs.drop k)) A' ∧ K e w G2 ((rb, row [cva, .int .i64 (p + 1 + (i : Int) + 1)] 55) :: (A' ++ L))) ?_ ?_
    ·skip
     refine rgs (fun w => K e w G2 L) (fun w => K _ w _ _) [U,U,U,U,U,U,U,U,U,U,U,U,U] 13 Ty.mixed rfl rfl (hK.drawn _) ?_
     intro w hK
     have hS : (fun w => K e w G2 L) w := (by first | exact hK.drop1 | exact hK.drop1.drop1 | exact hK.drop1.drop1.drop1 | exact (K.dropL hK).drop1 | exact (K.dropL hK).drop1.drop1 | exact (K.dropL hK.drop1).drop1)
     refine xt (i := 1) rfl kr rfl rfl (fun w hK => mv) hS <| ?_; refine xt (i := 2) rfl kr rfl rfl (fun w hK => (mI rfl)) hS <| ?_; refine xt (i := 3) rfl kr rfl rfl (fun w hK => (slHi (h := k) Try.underlying23 Ty.s3 rfl hx.1 rfl om)) hS <| ?_; refine xt (i := 5) rfl kr rfl rfl (fun w hK => (mI rfl)) hS <| ?_; refine xt (i := 8) rfl kr rfl rfl (fun w hK => mv) hS <| ?_; refine xt (i := 9) rfl kr rfl rfl (fun w hK => (mI rfl)) hS <| ?_; refine xt (i := 10) rfl kr rfl rfl (fun w hK => (slLo (l := k) Try.underlying23 Ty.s3 rfl hx.1 rfl om)) hS <| ?_
     refine xe2 (i := 0) (j := 6) kr rfl rfl rfl rfl ?_ ?_
     ·refine bs0 hK Try.underlying23 Ty.i3 ?_
      intro b44 w hK
      refine xnk ((by first | exact hK.drop1 | exact hK.drop1.drop1 | exact hK.drop1.drop1.drop1 | exact (K.dropL hK).drop1 | exact (K.dropL hK).drop1.drop1 | exact (K.dropL hK.drop1).drop1)) fun hS => ?_
      refine xe2 (i := 4) (j := 6) kr rfl rfl rfl rfl ?_ ?_
      ·skip
       refine apI (A := [(b44, row [] 3)]) (xs := []) hK Try.underlying23 Ty.i3 rfl rfl OS.none rfl (hx.slc (Nat.zero_le _) hk) (by simp; omega) fun v1 A1 w ho1 hK => ?_
       refine xnk ((by first | exact hK.drop1 | exact hK.drop1.drop1 | exact hK.drop1.drop1.drop1 | exact (K.dropL hK).drop1 | exact (K.dropL hK).drop1.drop1 | exact (K.dropL hK.drop1).drop1)) fun hS => ?_
       refine xe (i := 6) kr rfl rfl ?_
       refine bsN [.tmp 49] hK Try.underlying23 Ty.i3 rfl rfl rfl rfl rfl rfl rfl rfl ?_
       intro b50 w hK
       refine xnk ((by first | exact hK.drop1 | exact hK.drop1.drop1 | exact hK.drop1.drop1.drop1 | exact (K.dropL hK).drop1 | exact (K.dropL hK).drop1.drop1 | exact (K.dropL hK.drop1).drop1)) fun hS => ?_
       refine xe (i := 7) kr rfl rfl ?_
       refine apI1 (A := A1) (xs := [] ++ (xs.take k).drop 0) (k := pp) hK Try.underlying23 Ty.i3 rfl rfl ho1 rfl (by simp; omega) fun v2 A2 w ho2 hK => ?_
       refine xnk ((by first | exact hK.drop1 | exact hK.drop1.drop1 | exact hK.drop1.drop1.drop1 | exact (K.dropL hK).drop1 | exact (K.dropL hK).drop1.drop1 | exact (K.dropL hK.drop1).drop1)) fun hS => ?_
       refine xe (i := 11) kr rfl rfl ?_
       refine apI hK Try.underlying23 Ty.i3 rfl rfl ho2 rfl (hx.slc hk (Nat.le_refl _)) (by simp; omega) fun v3 A3 w ho3 hK => ?_
       refine xnk ((by first | exact hK.drop1 | exact hK.drop1.drop1 | exact hK.drop1.drop1.drop1 | exact (K.dropL hK).drop1 | exact (K.dropL hK).drop1.drop1 | exact (K.dropL hK.drop1).drop1)) fun hS => ?_
       refine xt (i := 12) rfl kr rfl rfl (fun w hK => asg) hS <| ?_; refine xd kr <| ctn <| ?_
       exact ⟨v3, ⟨rfl, rfl, rfl, rfl, trivial⟩, A3, by rw [← hins]; exact ho3, K.mid (A := A3) (B := [_]) hK⟩
      ·refine bsN [.tmp 49] hK Try.underlying23 Ty.i3 rfl rfl rfl rfl rfl rfl rfl rfl ?_
       intro b50 w hK
       refine xnk ((by first | exact hK.drop1 | exact hK.drop1.drop1 | exact hK.drop1.drop1.drop1 | exact (K.dropL hK).drop1 | exact (K.dropL hK).drop1.drop1 | exact (K.dropL hK.drop1).drop1)) fun hS => ?_
       refine xe (i := 4) kr rfl rfl ?_
       refine apI (A := [(b44, row [] 3)]) (xs := []) (K.swp hK) Try.underlying23 Ty.i3 rfl rfl OS.none rfl (hx.slc (Nat.zero_le _) hk) (by simp; omega) fun v1 A1 w ho1 hK => ?_
       refine xnk ((by first | exact hK.drop1 | exact hK.drop1.drop1 | exact hK.drop1.drop1.drop1 | exact (K.dropL hK).drop1 | exact (K.dropL hK).drop1.drop1 | exact (K.dropL hK.drop1).drop1)) fun hS => ?_
       refine xe (i := 7) kr rfl rfl ?_
       refine apI1 (A := A1) (xs := [] ++ (xs.take k).drop 0) (k := pp) (K.mid (A := A1) (B := [_]) hK) Try.underlying23 Ty.i3 rfl rfl ho1 rfl (by simp; omega) fun v2 A2 w ho2 hK => ?_
       refine xnk ((by first | exact hK.drop1 | exact hK.drop1.drop1 | exact hK.drop1.drop1.drop1 | exact (K.dropL hK).drop1 | exact (K.dropL hK).drop1.drop1 | exact (K.dropL hK.drop1).drop1)) fun hS => ?_
       refine xe (i := 11) kr rfl rfl ?_
       refine apI hK Try.underlying23 Ty.i3 rfl rfl ho2 rfl (hx.slc hk (Nat.le_refl _)) (by simp; omega) fun v3 A3 w ho3 hK => ?_
       refine xnk ((by first | exact hK.drop1 | exact hK.drop1.drop1 | exact hK.drop1.drop1.drop1 | exact (K.dropL hK).drop1 | exact (K.dropL hK).drop1.drop1 | exact (K.dropL hK.drop1).drop1)) fun hS => ?_
       refine xt (i := 12) rfl kr rfl rfl (fun w hK => asg) hS <| ?_; refine xd kr <| ctn <| ?_
       exact ⟨v3, ⟨rfl, rfl, rfl, rfl, trivial⟩, A3, by rw [← hins]; exact ho3, K.mid (A := A3) (B := [_]) hK⟩
     ·refine bsN [.tmp 49] hK Try.underlying23 Ty.i3 rfl rfl rfl rfl rfl rfl rfl rfl ?_
      intro b50 w hK
      refine xnk ((by first | exact hK.drop1 | exact hK.drop1.drop1 | exact hK.drop1.drop1.drop1 | exact (K.dropL hK).drop1 | exact (K.dropL hK).drop1.drop1 | exact (K.dropL hK.drop1).drop1)) fun hS => ?_
      refine xe (i := 0) kr rfl rfl ?_
      refine bs0 hK Try.underlying23 Ty.i3 ?_
      intro b44 w hK
      refine xnk ((by first | exact hK.drop1 | exact hK.drop1.drop1 | exact hK.drop1.drop1.drop1 | exact (K.dropL hK).drop1 | exact (K.dropL hK).drop1.drop1 | exact (K.dropL hK.drop1).drop1)) fun hS => ?_
      refine xe (i := 4) kr rfl rfl ?_
      refine apI (A := [(b44, row [] 3)]) (xs := []) hK Try.underlying23 Ty.i3 rfl rfl OS.none rfl (hx.slc (Nat.zero_le _) hk) (by simp; omega) fun v1 A1 w ho1 hK => ?_
      refine xnk ((by first | exact hK.drop1 | exact hK.drop1.drop1 | exact hK.drop1.drop1.drop1 | exact (K.dropL hK).drop1 | exact (K.dropL hK).drop1.drop1 | exact (K.dropL hK.drop1).drop1)) fun hS => ?_
      refine xe (i := 7) kr rfl rfl ?_
      refine apI1 (A := A1) (xs := [] ++ (xs.take k).drop 0) (k := pp) (K.mid (A := A1) (B := [_]) hK) Try.underlying23 Ty.i3 rfl rfl ho1 rfl (by simp; omega) fun v2 A2 w ho2 hK => ?_
      refine xnk ((by first | exact hK.drop1 | exact hK.drop1.drop1 | exact hK.drop1.drop1.drop1 | exact (K.dropL hK).drop1 | exact (K.dropL hK).drop1.drop1 | exact (K.dropL hK.drop1).drop1)) fun hS => ?_
      refine xe (i := 11) kr rfl rfl ?_
      refine apI hK Try.underlying23 Ty.i3 rfl rfl ho2 rfl (hx.slc hk (Nat.le_refl _)) (by simp; omega) fun v3 A3 w ho3 hK => ?_
      refine xnk ((by first | exact hK.drop1 | exact hK.drop1.drop1 | exact hK.drop1.drop1.drop1 | exact (K.dropL hK).drop1 | exact (K.dropL hK).drop1.drop1 | exact (K.dropL hK.drop1).drop1)) fun hS => ?_
      refine xt (i := 12) rfl kr rfl rfl (fun w hK => asg) hS <| ?_; refine xd kr <| ctn <| ?_
      exact ⟨v3, ⟨rfl, rfl, rfl, rfl, trivial⟩, A3, by rw [← hins]; exact ho3, K.mid (A := A3) (B := [_]) hK⟩
    ·rintro s g w ⟨A', ho', hK⟩
     refine bkn <| thn <| rg <| ?_
     refine vl (mI rfl) <| vl (ad rfl rfl) <| vl (aI rfl) <| nl <| thn <| ?_
     exact ⟨(i + 1, G2, s, xs.take k ++ pp :: xs.drop k, A'), ⟨rfl, rfl, rfl, rfl, trivial⟩, ⟨by simp only; omega, hG1.trans hG2, ho', has.ins hpp hk hka hge hx2, by simp; omega, by
      have : (p + 1 + ((i + 1 : Nat) : Int)) = p + 1 + (i : Int) + 1 := by omega
      simp only; rw [this]; exact hK⟩, by simp only; omega⟩
 ·have hi' : (i : Int) = m + k15 := by simp only at hc; omega
  refine ex <| the <| the <| bkh <| thn <| sq <| rg <| ?_
  refine vl mv <| vl asg <| nl <| thn <| rt <| p1r (a := _) rfl <| ?_
  exact ⟨G1, xs, A, _, hG1, ho, has, by omega, by omega, by omega, by omega, hK⟩

theorem l91Nodes_c (hK : K e w G ((rb, row [cva, .int .i64 p] 55) :: L)) (hcode : BytS G cva code) (hlen : code.length ≤ 2000) (h0 : 0 ≤ p) (h1 : p ≤ 800000000) :
  Ret Try.prog 24 #[.pointer (some ⟨rb, 0, none⟩)] w (fun r w' => ∃ G' xs p', VLe G G' ∧ IntS G' r xs ∧ xs.length ≤ 20 ∧ p ≤ p' ∧ p' ≤ p + 40 ∧ K e w' G' ((rb, row [cva, .int .i64 p'] 55) :: L)) := by
 refine enter1 (args := [.pointer (some ⟨rb, 0, none⟩)]) Try.func24 rfl rfl rfl rfl ?_
 refine sq <| rg <| ?_
 refine vl asg <| nl <| thn <| sq <| rg <| vl mv <| ?_
 refine cl Try.call36 rfl (l91Good_c hK hcode hlen h0 om om om) ?_
 rintro v w ⟨G1, xs, A, p1, hG1, ho, has, hl1, hl2, hp1, hp2, hK⟩
 replace hcode := hcode.mono hG1
 refine vl asg <| nl <| thn <| sq <| sq <| rg <| vl mv <| ?_
 refine cl Try.call25 rfl (pickN_c hK hcode hlen om om om) ?_
 rintro _ w ⟨⟨k7, rfl, hk7, hkn7⟩, hK⟩
 refine nl <| thn <| bk <| sq <| rg <| vl (eq rfl rfl) <| vl (aB rfl) <| nl <| thn <| ?_
 refine cdP rfl (fun hc0 => ?_) (fun hc0 => ?_)
 ·skip
  refine rg <| ?_
  refine vl mv <| vl mv <| vl mv <| vl (ln Try.underlying23 rfl ho.len) <| ?_
  refine cl Try.call25 rfl (pickN_c hK hcode hlen om om om) ?_
  rintro _ w ⟨⟨k14, rfl, hk14, hkn14⟩, hK⟩
  refine vl mv <| ?_
  refine cl Try.call37 rfl (l91Point_c hK hcode hlen om om) ?_
  rintro _ w ⟨k16, p16, rfl, hk16, hkn16, hp16, hq16, hK⟩
  refine vl (ix1 Try.underlying23 Ty.s3 rfl ho.slw rfl om om) <| ?_
  refine osSetC (i := k14.toNat) (u := .int .i64 k16) (K.mid (A := [_]) (B := A) hK) ho om Ty.i3 rfl rfl rfl rfl fun A2 w ho2 hK => ?_
  rw [ints_set] at ho2
  refine nl <| bkn <| thn <| sq <| rg <| vl mv <| vl asg <| nl <| thn <| rt <| p1r (a := _) rfl <| ?_
  obtain ⟨G2, hG2, hx, hK⟩ := K.pubO (xs := xs.set k14.toNat k16) hK (by rw [List.length_set]; exact ho2)
  exact ⟨G2, _, _, hG1.trans hG2, hx, by rw [List.length_set]; omega, by omega, by omega, hK⟩
 ·refine sq <| rg <| ?_
  refine vl (eq rfl rfl) <| vl (aB rfl) <| nl <| thn <| ?_
  refine cdP rfl (fun hc1 => ?_) (fun hc1 => ?_)
  ·refine rg <| ?_
   refine vl mv <| vl mv <| ?_
   refine ap (news := ints xs) (K.mid (A := [_]) (B := A) hK) Try.underlying23 Ty.i3 rfl rfl rfl ho rfl ho.slw (by simp [ints]) (fun _ _ hj => ho.cell (K.mid (A := [_]) (B := A) hK) hj) ints_one om fun v2 A2 w ho2 hK => ?_
   rw [ints_app] at ho2
   refine vl asg <| nl <| bkn <| thn <| sq <| rg <| vl mv <| vl asg <| nl <| thn <| rt <| p1r (a := _) rfl <| ?_
   obtain ⟨G2, hG2, hx, hK⟩ := K.pubO (xs := xs ++ xs) hK (by rw [List.length_append]; exact ho2)
   exact ⟨G2, _, _, hG1.trans hG2, hx, by simp; omega, by omega, by omega, hK⟩
  ·refine sq <| rg <| ?_
   refine vl (eq rfl rfl) <| vl (aB rfl) <| nl <| thn <| ?_
   obtain ⟨G2, hG2, hx, hK⟩ := K.pubO (K.mid (A := [_]) (B := A) hK) ho
   refine cdP rfl (fun hc2 => ?_) (fun hc2 => ?_)
   ·refine rg <| ?_
    refine vl mv <| vl (slHi (h := 0) Try.underlying23 Ty.s3 rfl hx.1 rfl om) <| vl asg <| nl <| bkn <| thn <| sq <| rg <| vl mv <| vl asg <| nl <| thn <| rt <| p1r (a := _) rfl <| ?_
    exact ⟨G2, _, _, hG1.trans hG2, hx.slc (Nat.zero_le _) (Nat.zero_le _), by simp, by omega, by omega, hK⟩
   ·refine sk <| bkn <| thn <| sq <| rg <| ?_
    refine vl mv <| vl asg <| nl <| thn <| rt <| p1r (a := _) rfl <| ?_
    exact ⟨G2, _, _, hG1.trans hG2, hx, by omega, by omega, by omega, hK⟩

end
end Go.Proofs.Ytlpefeeadeocgaa
