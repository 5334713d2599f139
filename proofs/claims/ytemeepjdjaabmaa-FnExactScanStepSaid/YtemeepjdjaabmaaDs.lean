/- Contracts of the functions that draw leases, keys and scans. Conditions: those that each row states. -/
import Derived.Test.YtemeepjdjaabmaaSl
import Derived.Test.YtemeepjdjaabmaaDr
namespace Go.Proofs.Ytemeepjdjaabmaa
open Go Go.Ro

theorem q64 {n : Int} (h : 1 ≤ n) (h2 : n ≤ 12) : 1 ≤ 64 / n ∧ 64 / n ≤ 64 := by
  have : n = 1 ∨ n = 2 ∨ n = 3 ∨ n = 4 ∨ n = 5 ∨ n = 6 ∨ n = 7 ∨ n = 8 ∨ n = 9 ∨ n = 10 ∨ n = 11 ∨ n = 12 := by omega
  rcases this with rfl | rfl | rfl | rfl | rfl | rfl | rfl | rfl | rfl | rfl | rfl | rfl <;> decide

section
variable {e w : World} {G : View} {L A : Own} {cva v u t : Value} {code xs ys ks ts : List Int} {ls : List Ls} {n p : Int} {rb : Nat}

theorem pickJ_c (j : Nat) {L : Own} (hK : K e w G L) (hj : L[j]? = some (rb, row [cva, .int .i64 p] 91)) (hcode : BytS G cva code) (hlen : code.length ≤ 2000) (h0 : 0 ≤ p) (h1 : p ≤ 1000000000) (hn : 1 ≤ n) :
    Ret Try.prog 56 #[.pointer (some ⟨rb, 0, none⟩), .int .i64 n] w (fun r w' => (∃ k, r = .int .i64 k ∧ 0 ≤ k ∧ k < n) ∧ K e w' G (L.set j (rb, row [cva, .int .i64 (p + 1)] 91))) :=
  (pickN_c (hK.nth hj) hcode hlen h0 h1 hn).mono fun _ _ ⟨h, hK⟩ => ⟨h, hK.perm (set_perm hj)⟩
theorem l91PointJ_c (j : Nat) {L : Own} (hK : K e w G L) (hj : L[j]? = some (rb, row [cva, .int .i64 p] 91)) (hcode : BytS G cva code) (hlen : code.length ≤ 2000) (h0 : 0 ≤ p) (h1 : p ≤ 900000000) :
    Ret Try.prog 83 #[.pointer (some ⟨rb, 0, none⟩)] w (fun r w' => ∃ k p', r = .int .i64 k ∧ -1 ≤ k ∧ k ≤ 64 ∧ p ≤ p' ∧ p' ≤ p + 2 ∧ K e w' G (L.set j (rb, row [cva, .int .i64 p'] 91))) :=
  (l91Point_c (hK.nth hj) hcode hlen h0 h1).mono fun _ _ ⟨k, p', h1, h2, h3, h4, h5, hK⟩ => ⟨k, p', h1, h2, h3, h4, h5, hK.perm (set_perm hj)⟩
theorem l91Time_c (hK : K e w G ((rb, row [cva, .int .i64 p] 91) :: L)) (hcode : BytS G cva code) (hlen : code.length ≤ 2000) (h0 : 0 ≤ p) (h1 : p ≤ 900000000) :
    Ret Try.prog 88 #[.pointer (some ⟨rb, 0, none⟩)] w (fun r w' => ∃ k p', r = .int .i64 k ∧ p ≤ p' ∧ p' ≤ p + 2 ∧ K e w' G ((rb, row [cva, .int .i64 p'] 91) :: L)) := by
  refine enter1 (args := [.pointer (some ⟨rb, 0, none⟩)]) Try.func88 rfl rfl rfl rfl ?_
  refine sq <| rg <| ?_
  refine vl (asv (v := .int _ _) rfl) <| nl <| thn <| sq <| sq <| rg <| vl mv <| ?_
  refine cl Try.call56 rfl (pickN_c hK hcode hlen (by first | omega | (simp only; omega)) (by first | omega | (simp only; omega)) (by first | omega | (simp only; omega))) ?_
  rintro _ w ⟨⟨k4, rfl, hk4, hkn4⟩, hK⟩
  refine vl (eq rfl rfl) <| nl <| thn <| ?_
  refine cdP rfl (fun h => ?_) (fun h => ?_)
  · have ho : ∀ b : Nat, OS 1 3 (.slice (some ⟨b, 0, none⟩) 4 4) 4 (ints [-1, 0, 999, 1000]) [(b, row (ints [-1, 0, 999, 1000]) 3)] := fun b => OS.lit rfl (by decide)
    refine sq <| rg <| ?_
    refine bsN [.const (.int .i64 (-1)), .const (.int .i64 0), .const (.int .i64 999), .const (.int .i64 1000)] hK Try.underlying24 Ty.i3 rfl rfl rfl rfl rfl rfl rfl rfl ?_
    intro b6 w hK
    refine vl mv <| ?_
    refine cl Try.call56 rfl (pickJ_c 1 hK rfl hcode hlen (by first | omega | (simp only; omega)) (by first | omega | (simp only; omega)) (by first | omega | (simp only; omega))) ?_
    rintro _ w ⟨⟨k8, rfl, hk8, hkn8⟩, hK⟩
    obtain ⟨m, rfl⟩ : ∃ m : Nat, k8 = m := ⟨k8.toNat, by omega⟩
    refine vl (ixm1 (m := m) Try.underlying24 Ty.s3 rfl (ho b6).slw rfl rfl (by first | omega | (simp only; omega))) <| vl (ldC Ty.o3 rfl ((ho b6).cell (L := (rb, row [cva, .int .i64 (p + 1 + 1)] 91) :: L) hK (ints_get (by show m < 4; omega)))) <| vl (asv (v := .int _ _) rfl) <| nl <| thn <| rt <| thr <| p1r (a := .int _ _) rfl <| ?_
    exact ⟨_, _, rfl, by omega, by omega, hK.drop1⟩
  · refine sk <| thn <| sq <| rg <| ?_
    refine vl mv <| ?_
    refine cl Try.call56 rfl (pickN_c hK hcode hlen (by first | omega | (simp only; omega)) (by first | omega | (simp only; omega)) (by first | omega | (simp only; omega))) ?_
    rintro _ w ⟨⟨k12, rfl, hk12, hkn12⟩, hK⟩
    refine vl (asv (v := .int _ _) rfl) <| nl <| thn <| rt <| p1r (a := .int _ _) rfl <| ?_
    exact ⟨_, _, rfl, by omega, by omega, hK⟩

theorem l91TimeJ_c (j : Nat) {L : Own} (hK : K e w G L) (hj : L[j]? = some (rb, row [cva, .int .i64 p] 91)) (hcode : BytS G cva code) (hlen : code.length ≤ 2000) (h0 : 0 ≤ p) (h1 : p ≤ 900000000) :
    Ret Try.prog 88 #[.pointer (some ⟨rb, 0, none⟩)] w (fun r w' => ∃ k p', r = .int .i64 k ∧ p ≤ p' ∧ p' ≤ p + 2 ∧ K e w' G (L.set j (rb, row [cva, .int .i64 p'] 91))) :=
  (l91Time_c (hK.nth hj) hcode hlen h0 h1).mono fun _ _ ⟨k, p', h1, h4, h5, hK⟩ => ⟨k, p', h1, h4, h5, hK.perm (set_perm hj)⟩

theorem l92Keys_c (hK : K e w G ((rb, row [cva, .int .i64 p] 91) :: L)) (hcode : BytS G cva code) (hlen : code.length ≤ 2000) (h0 : 0 ≤ p) (h1 : p ≤ 900000000) :
    Ret Try.prog 74 #[.pointer (some ⟨rb, 0, none⟩)] w (fun r w' => ∃ G' zs p', VLe G G' ∧ IntS G' r zs ∧ zs.length ≤ 65 ∧ (∀ x ∈ zs.dropLast, 0 ≤ x) ∧ p ≤ p' ∧ p' ≤ p + 70 ∧ K e w' G' ((rb, row [cva, .int .i64 p'] 91) :: L)) := by
  refine enter1 (args := [.pointer (some ⟨rb, 0, none⟩)]) Try.func74 rfl rfl rfl rfl ?_
  refine sq <| rg <| ?_
  refine vl asg <| nl <| thn <| sq <| rg <| ?_
  refine bs0 hK Try.underlying24 Ty.i3 ?_
  intro b5 w hK
  refine vl asg <| nl <| thn <| sq <| sq <| rg <| vl (asv (v := .int _ _) rfl) <| nl <| thn <| bk <| ?_
  replace hK := K.mid (A := [(b5, _)]) (B := [_]) hK
  refine lp (σ := Nat × Int × Value × List Int × Own) (fun s => [(0, .pointer (some ⟨rb, 0, none⟩)), (3, s.2.2.1), (4, .int .i64 (s.1 : Int))]) (fun s w => s.1 ≤ 64 ∧ s.2.1 = p + s.1 ∧ s.2.2.2.1.length ≤ s.1 ∧ (∀ x ∈ s.2.2.2.1, 0 ≤ x) ∧ OS 1 3 s.2.2.1 s.2.2.2.1.length (ints s.2.2.2.1) s.2.2.2.2 ∧ K e w G ((rb, row [cva, .int .i64 s.2.1] 91) :: (s.2.2.2.2 ++ L))) (fun s => 64 - s.1) (0, p, .slice (some ⟨b5, 0, none⟩) 0 0, [], [(b5, row [] 3)]) ⟨rfl, rfl, rfl, trivial⟩ ⟨Nat.zero_le _, by simp, Nat.le_refl _, by simp, OS.none, hK⟩ ?_
  rintro ⟨i, q, v, zs, A⟩ g w ⟨hi, hq, hz, hp, ho, hK⟩
  simp only at hi hq hz hp ho hK
  refine sq <| sq <| rg <| ?_
  refine vl (mvv (v := .int _ _) rfl) <| vl (lt rfl rfl) <| nl <| thn <| ?_
  refine cdP rfl (fun hc => ?_) (fun hc => ?_)
  · have hi' : i < 64 := by simp only at hc; omega
    refine sk <| thn <| sq <| bk <| sq <| rg <| ?_
    refine vl mv <| ?_
    refine cl Try.call56 rfl (pickN_c hK hcode hlen (by first | omega | (simp only; omega)) (by first | omega | (simp only; omega)) (by first | omega | (simp only; omega))) ?_
    rintro _ w ⟨⟨k11, rfl, hk11, hkn11⟩, hK⟩
    refine vl (eq rfl rfl) <| nl <| thn <| ?_
    refine cdP rfl (fun hx => ?_) (fun hx => ?_)
    · refine rg <| ?_
      refine vl mv <| vl (mvv (v := .int _ _) rfl) <| ?_
      refine bsN [.tmp 14] hK Try.underlying24 Ty.i3 rfl rfl rfl rfl rfl rfl rfl rfl ?_
      intro b15 w hK
      replace hK := K.midc (A := [_]) hK
      refine apI1 (k := (i : Int)) hK Try.underlying24 Ty.i3 rfl rfl ho rfl (by first | omega | (simp only; omega)) fun v' A' w ho hK => ?_
      replace hK := K.mid (B := [_]) hK
      refine vl asg <| nl <| bkn <| thn <| rg <| vl (mvv (v := .int _ _) rfl) <| vl (ad rfl rfl (by first | omega | (simp only; omega)) (by first | omega | (simp only; omega))) <| vl (asv (v := .int _ _) rfl) <| nl <| thn <| ?_
      refine ⟨(i + 1, q + 1, v', zs ++ [(i : Int)], A'), ⟨rfl, rfl, rfl, trivial⟩, ⟨hi', by simp only; omega, by simp; omega, ?_, ho, hK⟩, by simp only; omega⟩
      intro x hx
      rcases List.mem_append.1 hx with hx | hx
      · exact hp x hx
      · rw [List.mem_singleton.1 hx]; omega
    · refine sk <| bkn <| thn <| rg <| ?_
      refine vl (mvv (v := .int _ _) rfl) <| vl (ad rfl rfl (by first | omega | (simp only; omega)) (by first | omega | (simp only; omega))) <| vl (asv (v := .int _ _) rfl) <| nl <| thn <| ?_
      exact ⟨(i + 1, q + 1, v, zs, A), ⟨rfl, rfl, rfl, trivial⟩, ⟨hi', by simp only; omega, by simp only; omega, hp, ho, hK⟩, by simp only; omega⟩
  · refine ex <| the <| the <| bkh <| thn <| sq <| sq <| rg <| ?_
    refine vl mv <| ?_
    refine cl Try.call56 rfl (pickN_c hK hcode hlen (by first | omega | (simp only; omega)) (by first | omega | (simp only; omega)) (by first | omega | (simp only; omega))) ?_
    rintro _ w ⟨⟨k18, rfl, hk18, hkn18⟩, hK⟩
    refine vl (eq rfl rfl) <| nl <| thn <| ?_
    refine cdP rfl (fun hx => ?_) (fun hx => ?_)
    · refine rg <| ?_
      refine vl mv <| vl mv <| ?_
      refine cl Try.call56 rfl (pickN_c hK hcode hlen (by first | omega | (simp only; omega)) (by first | omega | (simp only; omega)) (by first | omega | (simp only; omega))) ?_
      rintro _ w ⟨⟨k22, rfl, hk22, hkn22⟩, hK⟩
      refine vl (sb rfl rfl (by first | omega | (simp only; omega)) (by first | omega | (simp only; omega))) <| ?_
      refine bsN [.tmp 23] hK Try.underlying24 Ty.i3 rfl rfl rfl rfl rfl rfl rfl rfl ?_
      intro b24 w hK
      replace hK := K.midc (A := [_]) hK
      refine apI1 (k := k22 - 1) hK Try.underlying24 Ty.i3 rfl rfl ho rfl (by first | omega | (simp only; omega)) fun v' A' w ho hK => ?_
      refine vl asg <| nl <| thn <| sq <| rg <| vl mv <| vl asg <| nl <| thn <| rt <| p1r (a := _) rfl <| ?_
      obtain ⟨G', hG, hx, hK⟩ := hK.pubO ho
      refine ⟨G', _, _, hG, hx, by rw [List.length_append, List.length_singleton]; omega, ?_, by omega, by omega, hK⟩
      rw [List.dropLast_concat]; exact hp
    · refine sk <| thn <| sq <| rg <| ?_
      refine vl mv <| vl asg <| nl <| thn <| rt <| p1r (a := _) rfl <| ?_
      obtain ⟨G', hG, hx, hK⟩ := (K.mid1 hK).pubO ho
      exact ⟨G', _, _, hG, hx, by omega, fun x hx => hp x (List.dropLast_subset _ hx), by omega, by omega, hK⟩

theorem l92Scan_c (hK : K e w G ((rb, row [cva, .int .i64 p] 91) :: L)) (hcode : BytS G cva code) (hlen : code.length ≤ 2000) (h0 : 0 ≤ p) (h1 : p ≤ 900000000) :
    Ret Try.prog 63 #[.pointer (some ⟨rb, 0, none⟩)] w (fun r w' => ∃ G' t n zs p', r = .agg #[.int .i64 n, t] ∧ VLe G G' ∧ IntS G' t zs ∧ zs.length ≤ 67 ∧ -1 ≤ n ∧ n ≤ 66 ∧ p ≤ p' ∧ p' ≤ p + 70 ∧ K e w' G' ((rb, row [cva, .int .i64 p'] 91) :: L)) := by
  refine enterG1 (args := [.pointer (some ⟨rb, 0, none⟩)]) Try.func63 rfl rfl rfl rfl ?_
  refine sq <| rg <| ?_
  refine al hK Ty.i33 rfl ?_
  intro b2 w hK
  refine nl <| thn <| sq <| rg <| vl mv <| ?_
  refine cl Try.call56 rfl (pickJ_c 1 hK rfl hcode hlen (by first | omega | (simp only; omega)) (by first | omega | (simp only; omega)) (by first | omega | (simp only; omega))) ?_
  rintro _ w ⟨⟨k6, rfl, hk6, hkn6⟩, hK⟩
  refine bs0 hK Try.underlying24 Ty.i3 ?_
  intro b7 w hK
  refine vl (bd [(0, _), (1, _)] Ty.p33 Ty.i33 rfl ⟨⟨rfl, rfl⟩, ⟨rfl, rfl⟩, trivial⟩ rfl) <| ?_
  refine al hK Ty.i33 rfl ?_
  intro b3 w hK
  refine soS hK Ty.i33 0 rfl rfl rfl rfl rfl rfl ?_
  intro w hK
  refine nl <| thn <| sq <| sq <| rg <| vl (asv (v := .int _ _) rfl) <| nl <| thn <| bk <| ?_
  replace hK : K e w G ((b3, row [.int .i64 k6, .slice (some ⟨b7, 0, none⟩) 0 0] 33) :: ([(b7, row [] 3)] ++ ([(b2, row [.int .i64 0, .slice none 0 0] 33), (rb, row [cva, .int .i64 (p + 1)] 91)] ++ L))) := hK
  replace hK := hK.midc
  refine lp (σ := Nat × Int × Value × List Int × Own) (fun s => [(0, .pointer (some ⟨rb, 0, none⟩)), (2, .pointer (some ⟨b2, 0, none⟩)), (3, .pointer (some ⟨b3, 0, none⟩)), (4, .int .i64 (s.1 : Int))]) (fun s w => (s.1 : Int) ≤ k6 ∧ s.2.1 = p + 1 + s.1 ∧ s.2.2.2.1.length ≤ s.1 ∧ OS 1 3 s.2.2.1 s.2.2.2.1.length (ints s.2.2.2.1) s.2.2.2.2 ∧ K e w G ((b3, row [.int .i64 k6, s.2.2.1] 33) :: (b2, row [.int .i64 0, .slice none 0 0] 33) :: (rb, row [cva, .int .i64 s.2.1] 91) :: (s.2.2.2.2 ++ L))) (fun s => k6.toNat - s.1) (0, p + 1, .slice (some ⟨b7, 0, none⟩) 0 0, [], [(b7, row [] 3)]) ⟨rfl, rfl, rfl, rfl, trivial⟩ ⟨by simp only; omega, by simp, Nat.le_refl _, OS.none, hK⟩ ?_
  rintro ⟨i, q, v, zs, A⟩ g w ⟨hi, hq, hz, ho, hK⟩
  simp only at hi hq hz ho hK
  refine sq <| sq <| rg <| ?_
  refine vl (mvv (v := .int _ _) rfl) <| vl (fa Try.underlying33 rfl Ty.z3 rfl) <| vl (ldO hK Ty.o3 0 rfl rfl rfl) <| vl (lt rfl rfl) <| nl <| thn <| ?_
  refine cdP rfl (fun hc => ?_) (fun hc => ?_)
  · have hi' : (i : Int) < k6 := by simp only at hc; omega
    refine sk <| thn <| sq <| bk <| sq <| rg <| ?_
    refine vl mv <| ?_
    refine cl Try.call56 rfl (pickJ_c 2 hK rfl hcode hlen (by first | omega | (simp only; omega)) (by first | omega | (simp only; omega)) (by first | omega | (simp only; omega))) ?_
    rintro _ w ⟨⟨k16, rfl, hk16, hkn16⟩, hK⟩
    refine vl (eq rfl rfl) <| nl <| thn <| ?_
    refine cdP rfl (fun hx => ?_) (fun hx => ?_)
    · refine rg <| ?_
      refine vl (fa Try.underlying33 rfl Ty.z24 rfl) <| vl (ldO hK Ty.o24 0 rfl rfl rfl) <| vl (mvv (v := .int _ _) rfl) <| ?_
      refine bsN [.tmp 20] hK Try.underlying24 Ty.i3 rfl rfl rfl rfl rfl rfl rfl rfl ?_
      intro b21 w hK
      replace hK := K.midc (A := [_, _, _]) hK
      refine apI1 (k := (i : Int)) hK Try.underlying24 Ty.i3 rfl rfl ho rfl (by first | omega | (simp only; omega)) fun v' A' w ho hK => ?_
      replace hK := K.mid (B := [_, _, _]) hK
      refine vl (fa Try.underlying33 rfl Ty.z24 rfl) <| ?_
      refine so hK Ty.i24 rfl 0 rfl rfl rfl ho.one rfl ?_
      intro w hK
      refine nl <| bkn <| thn <| rg <| vl (mvv (v := .int _ _) rfl) <| vl (ad rfl rfl (by first | omega | (simp only; omega)) (by first | omega | (simp only; omega))) <| vl (asv (v := .int _ _) rfl) <| nl <| thn <| ?_
      exact ⟨(i + 1, q + 1, v', zs ++ [(i : Int)], A'), ⟨rfl, rfl, rfl, rfl, trivial⟩, ⟨by simp only; omega, by simp only; omega, by simp; omega, ho, hK⟩, by simp only; omega⟩
    · refine sk <| bkn <| thn <| rg <| ?_
      refine vl (mvv (v := .int _ _) rfl) <| vl (ad rfl rfl (by first | omega | (simp only; omega)) (by first | omega | (simp only; omega))) <| vl (asv (v := .int _ _) rfl) <| nl <| thn <| ?_
      exact ⟨(i + 1, q + 1, v, zs, A), ⟨rfl, rfl, rfl, rfl, trivial⟩, ⟨by simp only; omega, by simp only; omega, by simp only; omega, ho, hK⟩, by simp only; omega⟩
  · skip
    refine ex <| the <| the <| bkh <| thn <| sq <| sq <| rg <| ?_
    refine vl mv <| ?_
    refine cl Try.call56 rfl (pickJ_c 2 hK rfl hcode hlen (by first | omega | (simp only; omega)) (by first | omega | (simp only; omega)) (by first | omega | (simp only; omega))) ?_
    rintro _ w ⟨⟨k25, rfl, hk25, hkn25⟩, hK⟩
    refine nl <| thn <| bk <| sq <| rg <| vl (eq rfl rfl) <| vl (asv (v := .bool _) rfl) <| nl <| thn <| ?_
    refine cdP rfl (fun hx => ?_) (fun hx => ?_)
    · refine rg <| ?_
      refine vl mv <| ?_
      refine cl Try.call56 rfl (pickJ_c 2 hK rfl hcode hlen (by first | omega | (simp only; omega)) (by first | omega | (simp only; omega)) (by first | omega | (simp only; omega))) ?_
      rintro _ w ⟨⟨k29, rfl, hk29, hkn29⟩, hK⟩
      refine vl (sb rfl rfl (by first | omega | (simp only; omega)) (by first | omega | (simp only; omega))) <| vl (fa Try.underlying33 rfl Ty.z3 rfl) <| ?_
      refine so hK Ty.i3 rfl 0 rfl rfl rfl rfl rfl ?_
      intro w hK
      refine nl <| bkn <| thn <| sq <| rg <| vl (lsO hK Ty.a33 Ty.s33 0 rfl rfl rfl) <| ?_
      refine soS hK Ty.i33 1 rfl rfl rfl rfl (allc rfl (allc ho.one rfl)) rfl ?_
      intro w hK
      refine nl <| thn <| rt <| pg1r (rvS hK Ty.a33 Ty.s33 1 rfl rfl rfl) <| ?_
      obtain ⟨G', hG, hx, hK⟩ := (K.mid (A := [_, _, _]) hK).pubO ho
      exact ⟨G', _, _, _, _, rfl, hG, hx, by omega, by omega, by omega, by omega, by omega, hK.drop1.drop1⟩
    · refine sq <| rg <| ?_
      refine vl (eq rfl rfl) <| vl (asv (v := .bool _) rfl) <| nl <| thn <| ?_
      refine cdP rfl (fun hy => ?_) (fun hy => ?_)
      · skip
        refine rgs (fun w => K e w G L) (fun w => K _ w _ _) [false, false, false, false, false, false, false, false] 8 Ty.mixed rfl rfl (hK.drawn _) ?_
        intro w hK
        have hS : (fun w => K e w G L) w := K.sl hK (by repeat' (first | exact List.Sublist.refl _ | refine List.Sublist.cons_cons _ ?_ | refine List.Sublist.cons _ ?_ | refine List.Sublist.trans ?_ (List.sublist_append_right _ _)))
        refine xt (i := 0) (l' := [true, false, false, false, false, false, false, false]) rfl (by kernel_rfl) rfl rfl (fun w hK => (fa Try.underlying33 rfl Ty.z24 rfl)) hS <| ?_; refine xt (i := 2) (l' := [true, false, true, false, false, false, false, false]) rfl (by kernel_rfl) rfl rfl (fun w hK => mv) hS <| ?_
        refine xe2 (i := 1) (j := 3) (l' := [true, true, true, false, false, false, false, false]) (l2 := [true, false, true, true, false, false, false, false]) (by kernel_rfl) rfl rfl rfl rfl ?_ ?_
        · refine vl (ldO hK Ty.o24 0 rfl rfl rfl) <| ?_
          replace hS : (fun w => K e w G L) w := K.sl hK (by repeat' (first | exact List.Sublist.refl _ | refine List.Sublist.cons_cons _ ?_ | refine List.Sublist.cons _ ?_ | refine List.Sublist.trans ?_ (List.sublist_append_right _ _)))
          refine xn (fun w => K e w G L) hS (fun _ h => h) ?_
          refine xe (i := 3) (l' := [true, true, true, true, false, false, false, false]) (by kernel_rfl) rfl rfl ?_
          refine cl Try.call56 rfl (pickJ_c 2 hK rfl hcode hlen (by first | omega | (simp only; omega)) (by first | omega | (simp only; omega)) (by first | omega | (simp only; omega))) ?_
          rintro _ w ⟨⟨k37, rfl, hk37, hkn37⟩, hK⟩
          replace hS : (fun w => K e w G L) w := K.sl hK (by repeat' (first | exact List.Sublist.refl _ | refine List.Sublist.cons_cons _ ?_ | refine List.Sublist.cons _ ?_ | refine List.Sublist.trans ?_ (List.sublist_append_right _ _)))
          refine xn (fun w => K e w G L) hS (fun _ h => h) ?_
          refine xe (i := 4) (l' := [true, true, true, true, true, false, false, false]) (by kernel_rfl) rfl rfl ?_
          refine bsN [.tmp 37] hK Try.underlying24 Ty.i3 rfl rfl rfl rfl rfl rfl rfl rfl ?_
          intro b38 w hK
          replace hS : (fun w => K e w G L) w := K.sl hK (by repeat' (first | exact List.Sublist.refl _ | refine List.Sublist.cons_cons _ ?_ | refine List.Sublist.cons _ ?_ | refine List.Sublist.trans ?_ (List.sublist_append_right _ _)))
          refine xn (fun w => K e w G L) hS (fun _ h => h) ?_
          refine xe (i := 5) (l' := [true, true, true, true, true, true, false, false]) (by kernel_rfl) rfl rfl ?_
          replace hK : K e w G ((b38, row [.int .i64 k37] 3) :: ([(b3, row [.int .i64 k6, v] 33), (b2, row [.int .i64 0, .slice none 0 0] 33), (rb, row [cva, .int .i64 (q + 1 + 1)] 91)] ++ (A ++ L))) := hK
          replace hK := hK.midc
          refine apI1 (k := k37) hK Try.underlying24 Ty.i3 rfl rfl ho rfl (by first | omega | (simp only; omega)) fun v2 A2 w ho hK => ?_
          replace hK := K.mid (B := [_, _, _]) hK
          replace hS : (fun w => K e w G L) w := K.sl hK (by repeat' (first | exact List.Sublist.refl _ | refine List.Sublist.cons_cons _ ?_ | refine List.Sublist.cons _ ?_ | refine List.Sublist.trans ?_ (List.sublist_append_right _ _)))
          refine xn (fun w => K e w G L) hS (fun _ h => h) ?_
          refine xt (i := 6) (l' := [true, true, true, true, true, true, true, false]) rfl (by kernel_rfl) rfl rfl (fun w hK => (fa Try.underlying33 rfl Ty.z24 rfl)) hS <| ?_
          refine xe (i := 7) (l' := [true, true, true, true, true, true, true, true]) (by kernel_rfl) rfl rfl ?_
          refine so hK Ty.i24 rfl 0 rfl rfl rfl ho.one rfl ?_
          intro w hK
          replace hS : (fun w => K e w G L) w := K.sl hK (by repeat' (first | exact List.Sublist.refl _ | refine List.Sublist.cons_cons _ ?_ | refine List.Sublist.cons _ ?_ | refine List.Sublist.trans ?_ (List.sublist_append_right _ _)))
          refine xn (fun w => K e w G L) hS (fun _ h => h) ?_
          refine xd (by kernel_rfl) <| bkn <| thn <| sq <| rg <| vl (lsO hK Ty.a33 Ty.s33 0 rfl rfl rfl) <| ?_
          refine soS hK Ty.i33 1 rfl rfl rfl rfl (allc rfl (allc ho.one rfl)) rfl ?_
          intro w hK
          refine nl <| thn <| rt <| pg1r (rvS hK Ty.a33 Ty.s33 1 rfl rfl rfl) <| ?_
          obtain ⟨G', hG, hx, hK⟩ := (K.mid (A := [_, _, _]) hK).pubO ho
          exact ⟨G', _, _, _, _, rfl, hG, hx, by rw [List.length_append, List.length_singleton]; omega, by omega, by omega, by omega, by omega, hK.drop1.drop1⟩
        · refine cl Try.call56 rfl (pickJ_c 2 hK rfl hcode hlen (by first | omega | (simp only; omega)) (by first | omega | (simp only; omega)) (by first | omega | (simp only; omega))) ?_
          rintro _ w ⟨⟨k37, rfl, hk37, hkn37⟩, hK⟩
          replace hS : (fun w => K e w G L) w := K.sl hK (by repeat' (first | exact List.Sublist.refl _ | refine List.Sublist.cons_cons _ ?_ | refine List.Sublist.cons _ ?_ | refine List.Sublist.trans ?_ (List.sublist_append_right _ _)))
          refine xn (fun w => K e w G L) hS (fun _ h => h) ?_
          refine xe2 (i := 1) (j := 4) (l' := [true, true, true, true, false, false, false, false]) (l2 := [true, false, true, true, true, false, false, false]) (by kernel_rfl) rfl rfl rfl rfl ?_ ?_
          · refine vl (ldO hK Ty.o24 0 rfl rfl rfl) <| ?_
            replace hS : (fun w => K e w G L) w := K.sl hK (by repeat' (first | exact List.Sublist.refl _ | refine List.Sublist.cons_cons _ ?_ | refine List.Sublist.cons _ ?_ | refine List.Sublist.trans ?_ (List.sublist_append_right _ _)))
            refine xn (fun w => K e w G L) hS (fun _ h => h) ?_
            refine xe (i := 4) (l' := [true, true, true, true, true, false, false, false]) (by kernel_rfl) rfl rfl ?_
            refine bsN [.tmp 37] hK Try.underlying24 Ty.i3 rfl rfl rfl rfl rfl rfl rfl rfl ?_
            intro b38 w hK
            replace hS : (fun w => K e w G L) w := K.sl hK (by repeat' (first | exact List.Sublist.refl _ | refine List.Sublist.cons_cons _ ?_ | refine List.Sublist.cons _ ?_ | refine List.Sublist.trans ?_ (List.sublist_append_right _ _)))
            refine xn (fun w => K e w G L) hS (fun _ h => h) ?_
            refine xe (i := 5) (l' := [true, true, true, true, true, true, false, false]) (by kernel_rfl) rfl rfl ?_
            replace hK : K e w G ((b38, row [.int .i64 k37] 3) :: ([(b3, row [.int .i64 k6, v] 33), (b2, row [.int .i64 0, .slice none 0 0] 33), (rb, row [cva, .int .i64 (q + 1 + 1)] 91)] ++ (A ++ L))) := hK
            replace hK := hK.midc
            refine apI1 (k := k37) hK Try.underlying24 Ty.i3 rfl rfl ho rfl (by first | omega | (simp only; omega)) fun v2 A2 w ho hK => ?_
            replace hK := K.mid (B := [_, _, _]) hK
            replace hS : (fun w => K e w G L) w := K.sl hK (by repeat' (first | exact List.Sublist.refl _ | refine List.Sublist.cons_cons _ ?_ | refine List.Sublist.cons _ ?_ | refine List.Sublist.trans ?_ (List.sublist_append_right _ _)))
            refine xn (fun w => K e w G L) hS (fun _ h => h) ?_
            refine xt (i := 6) (l' := [true, true, true, true, true, true, true, false]) rfl (by kernel_rfl) rfl rfl (fun w hK => (fa Try.underlying33 rfl Ty.z24 rfl)) hS <| ?_
            refine xe (i := 7) (l' := [true, true, true, true, true, true, true, true]) (by kernel_rfl) rfl rfl ?_
            refine so hK Ty.i24 rfl 0 rfl rfl rfl ho.one rfl ?_
            intro w hK
            replace hS : (fun w => K e w G L) w := K.sl hK (by repeat' (first | exact List.Sublist.refl _ | refine List.Sublist.cons_cons _ ?_ | refine List.Sublist.cons _ ?_ | refine List.Sublist.trans ?_ (List.sublist_append_right _ _)))
            refine xn (fun w => K e w G L) hS (fun _ h => h) ?_
            refine xd (by kernel_rfl) <| bkn <| thn <| sq <| rg <| vl (lsO hK Ty.a33 Ty.s33 0 rfl rfl rfl) <| ?_
            refine soS hK Ty.i33 1 rfl rfl rfl rfl (allc rfl (allc ho.one rfl)) rfl ?_
            intro w hK
            refine nl <| thn <| rt <| pg1r (rvS hK Ty.a33 Ty.s33 1 rfl rfl rfl) <| ?_
            obtain ⟨G', hG, hx, hK⟩ := (K.mid (A := [_, _, _]) hK).pubO ho
            exact ⟨G', _, _, _, _, rfl, hG, hx, by rw [List.length_append, List.length_singleton]; omega, by omega, by omega, by omega, by omega, hK.drop1.drop1⟩
          · refine bsN [.tmp 37] hK Try.underlying24 Ty.i3 rfl rfl rfl rfl rfl rfl rfl rfl ?_
            intro b38 w hK
            replace hS : (fun w => K e w G L) w := K.sl hK (by repeat' (first | exact List.Sublist.refl _ | refine List.Sublist.cons_cons _ ?_ | refine List.Sublist.cons _ ?_ | refine List.Sublist.trans ?_ (List.sublist_append_right _ _)))
            refine xn (fun w => K e w G L) hS (fun _ h => h) ?_
            refine xe (i := 1) (l' := [true, true, true, true, true, false, false, false]) (by kernel_rfl) rfl rfl ?_
            refine vl (ldO hK Ty.o24 1 rfl rfl rfl) <| ?_
            replace hS : (fun w => K e w G L) w := K.sl hK (by repeat' (first | exact List.Sublist.refl _ | refine List.Sublist.cons_cons _ ?_ | refine List.Sublist.cons _ ?_ | refine List.Sublist.trans ?_ (List.sublist_append_right _ _)))
            refine xn (fun w => K e w G L) hS (fun _ h => h) ?_
            refine xe (i := 5) (l' := [true, true, true, true, true, true, false, false]) (by kernel_rfl) rfl rfl ?_
            replace hK : K e w G ((b38, row [.int .i64 k37] 3) :: ([(b3, row [.int .i64 k6, v] 33), (b2, row [.int .i64 0, .slice none 0 0] 33), (rb, row [cva, .int .i64 (q + 1 + 1)] 91)] ++ (A ++ L))) := hK
            replace hK := hK.midc
            refine apI1 (k := k37) hK Try.underlying24 Ty.i3 rfl rfl ho rfl (by first | omega | (simp only; omega)) fun v2 A2 w ho hK => ?_
            replace hK := K.mid (B := [_, _, _]) hK
            replace hS : (fun w => K e w G L) w := K.sl hK (by repeat' (first | exact List.Sublist.refl _ | refine List.Sublist.cons_cons _ ?_ | refine List.Sublist.cons _ ?_ | refine List.Sublist.trans ?_ (List.sublist_append_right _ _)))
            refine xn (fun w => K e w G L) hS (fun _ h => h) ?_
            refine xt (i := 6) (l' := [true, true, true, true, true, true, true, false]) rfl (by kernel_rfl) rfl rfl (fun w hK => (fa Try.underlying33 rfl Ty.z24 rfl)) hS <| ?_
            refine xe (i := 7) (l' := [true, true, true, true, true, true, true, true]) (by kernel_rfl) rfl rfl ?_
            refine so hK Ty.i24 rfl 0 rfl rfl rfl ho.one rfl ?_
            intro w hK
            replace hS : (fun w => K e w G L) w := K.sl hK (by repeat' (first | exact List.Sublist.refl _ | refine List.Sublist.cons_cons _ ?_ | refine List.Sublist.cons _ ?_ | refine List.Sublist.trans ?_ (List.sublist_append_right _ _)))
            refine xn (fun w => K e w G L) hS (fun _ h => h) ?_
            refine xd (by kernel_rfl) <| bkn <| thn <| sq <| rg <| vl (lsO hK Ty.a33 Ty.s33 0 rfl rfl rfl) <| ?_
            refine soS hK Ty.i33 1 rfl rfl rfl rfl (allc rfl (allc ho.one rfl)) rfl ?_
            intro w hK
            refine nl <| thn <| rt <| pg1r (rvS hK Ty.a33 Ty.s33 1 rfl rfl rfl) <| ?_
            obtain ⟨G', hG, hx, hK⟩ := (K.mid (A := [_, _, _]) hK).pubO ho
            exact ⟨G', _, _, _, _, rfl, hG, hx, by rw [List.length_append, List.length_singleton]; omega, by omega, by omega, by omega, by omega, hK.drop1.drop1⟩
      · refine sk <| bkn <| thn <| sq <| rg <| ?_
        refine vl (lsO hK Ty.a33 Ty.s33 0 rfl rfl rfl) <| ?_
        refine soS hK Ty.i33 1 rfl rfl rfl rfl (allc rfl (allc ho.one rfl)) rfl ?_
        intro w hK
        refine nl <| thn <| rt <| pg1r (rvS hK Ty.a33 Ty.s33 1 rfl rfl rfl) <| ?_
        obtain ⟨G', hG, hx, hK⟩ := (K.mid (A := [_, _, _]) hK).pubO ho
        exact ⟨G', _, _, _, _, rfl, hG, hx, by omega, by omega, by omega, by omega, by omega, hK.drop1.drop1⟩

theorem l91Leases_c (hK : K e w G ((rb, row [cva, .int .i64 p] 91) :: L)) (hcode : BytS G cva code) (hlen : code.length ≤ 2000) (h0 : 0 ≤ p) (h1 : p ≤ 800000000) :
    Ret Try.prog 69 #[.pointer (some ⟨rb, 0, none⟩)] w (fun r w' => ∃ G' ls p', VLe G G' ∧ LeaS G' r ls ∧ ls.length ≤ 12 ∧ p ≤ p' ∧ p' ≤ p + 50 ∧ K e w' G' ((rb, row [cva, .int .i64 p'] 91) :: L)) := by
  refine enter1 (args := [.pointer (some ⟨rb, 0, none⟩)]) Try.func69 rfl rfl rfl rfl ?_
  refine sq <| rg <| ?_
  refine vl asg <| nl <| thn <| sq <| rg <| ?_
  refine bs0 hK Try.underlying42 Ty.i63 ?_
  intro b8 w hK
  refine vl asg <| nl <| thn <| sq <| rg <| vl mv <| ?_
  refine cl Try.call56 rfl (pickJ_c 1 hK rfl hcode hlen (by first | omega | (simp only; omega)) (by first | omega | (simp only; omega)) (by first | omega | (simp only; omega))) ?_
  rintro _ w ⟨⟨k10, rfl, hk10, hkn10⟩, hK⟩
  refine vl (ad rfl rfl (by first | omega | (simp only; omega)) (by first | omega | (simp only; omega))) <| vl (asv (v := .int _ _) rfl) <| nl <| thn <| sq <| sq <| rg <| vl mv <| ?_
  refine cl Try.call56 rfl (pickJ_c 1 hK rfl hcode hlen (by first | omega | (simp only; omega)) (by first | omega | (simp only; omega)) (by first | omega | (simp only; omega))) ?_
  rintro _ w ⟨⟨k13, rfl, hk13, hkn13⟩, hK⟩
  refine vl (eq rfl rfl) <| nl <| thn <| ?_
  replace hK := K.mid (A := [(b8, _)]) (B := [_]) hK
  refine ct (σ := Int × Int) (fun s => [(0, .pointer (some ⟨rb, 0, none⟩)), (3, .slice (some ⟨b8, 0, none⟩) 0 0), (4, .int .i64 s.1)]) (fun s w => 1 ≤ s.1 ∧ s.1 ≤ 12 ∧ s.2 ≤ p + 3 ∧ p ≤ s.2 ∧ K e w G ((rb, row [cva, .int .i64 s.2] 91) :: ([(b8, row [] 63)] ++ L))) ?_ ?_
  · skip
    refine cdP rfl (fun hx => ?_) (fun hx => ?_)
    · refine rg <| ?_
      refine vl mv <| ?_
      refine cl Try.call56 rfl (pickN_c hK hcode hlen (by first | omega | (simp only; omega)) (by first | omega | (simp only; omega)) (by first | omega | (simp only; omega))) ?_
      rintro _ w ⟨⟨k16, rfl, hk16, hkn16⟩, hK⟩
      refine vl (ad rfl rfl (by first | omega | (simp only; omega)) (by first | omega | (simp only; omega))) <| vl (asv (v := .int _ _) rfl) <| nl <| ctn <| ?_
      exact ⟨(_, _), ⟨rfl, rfl, rfl, trivial⟩, by simp only; omega, by simp only; omega, by simp only; omega, by simp only; omega, hK⟩
    · refine sk <| ctn <| ?_
      exact ⟨(_, _), ⟨rfl, rfl, rfl, trivial⟩, by simp only; omega, by simp only; omega, by simp only; omega, by simp only; omega, hK⟩
  · rintro ⟨n, q⟩ g w ⟨n1, n2, q1, q2, hK⟩
    refine thn <| sq <| rg <| ?_
    refine vl (asv (v := .int _ _) rfl) <| nl <| thn <| sq <| sq <| rg <| vl (asv (v := .int _ _) rfl) <| nl <| thn <| bk <| ?_
    simp only at n1 n2 q1 q2 hK
    have hq64 := q64 n1 n2
    refine lp (σ := Nat × Int × Int × Value × List Ls × Own) (fun s => [(0, .pointer (some ⟨rb, 0, none⟩)), (3, s.2.2.2.1), (4, .int .i64 n), (5, .int .i64 s.2.2.1), (6, .int .i64 (s.1 : Int))]) (fun s w => (s.1 : Int) ≤ n ∧ s.2.1 = q + 3 * s.1 ∧ (-1 ≤ s.2.2.1 ∧ s.2.2.1 ≤ 65 * s.1) ∧ s.2.2.2.2.1.length = s.1 ∧ OS 3 63 s.2.2.2.1 s.2.2.2.2.1.length (s.2.2.2.2.1.flatMap lc) s.2.2.2.2.2 ∧ K e w G ((rb, row [cva, .int .i64 s.2.1] 91) :: (s.2.2.2.2.2 ++ L))) (fun s => n.toNat - s.1) (0, q, -1, .slice (some ⟨b8, 0, none⟩) 0 0, [], [(b8, row [] 63)]) ⟨rfl, rfl, rfl, rfl, rfl, trivial⟩ ⟨by simp only; omega, by simp, by simp, rfl, OS.none, hK⟩ ?_
    rintro ⟨i, q', en, v, ls, A⟩ g w ⟨hi, hq, he, hz, ho, hK⟩
    simp only at hi hq he hz ho hK
    refine sq <| sq <| rg <| ?_
    refine vl (mvv (v := .int _ _) rfl) <| vl (mvv (v := .int _ _) rfl) <| vl (lt rfl rfl) <| nl <| thn <| ?_
    refine cdP rfl (fun hc => ?_) (fun hc => ?_)
    · have hi' : (i : Int) < n := by simp only at hc; omega
      refine sk <| thn <| sq <| bk <| sq <| rg <| ?_
      refine vl (mvv (v := .int _ _) rfl) <| vl (ad rfl rfl (by first | omega | (simp only; omega)) (by first | omega | (simp only; omega))) <| vl mv <| vl (mvv (v := .int _ _) rfl) <| vl (qu rfl rfl (by first | omega | (simp only; omega)) (by first | omega | (simp only; omega)) (by first | omega | (simp only; omega))) <| ?_
      refine cl Try.call56 rfl (pickN_c hK hcode hlen (by first | omega | (simp only; omega)) (by first | omega | (simp only; omega)) (by first | omega | (simp only; omega))) ?_
      rintro _ w ⟨⟨k28, rfl, hk28, hkn28⟩, hK⟩
      refine vl (ad rfl rfl (by first | omega | (simp only; omega)) (by first | omega | (simp only; omega))) <| vl (asv (v := .int _ _) rfl) <| nl <| thn <| rg <| vl mv <| vl (mvv (v := .int _ _) rfl) <| vl (mn rfl rfl) <| vl mv <| ?_
      refine cl Try.call56 rfl (pickN_c hK hcode hlen (by first | omega | (simp only; omega)) (by first | omega | (simp only; omega)) (by first | omega | (simp only; omega))) ?_
      rintro _ w ⟨⟨k34, rfl, hk34, hkn34⟩, hK⟩
      refine vl (ml rfl rfl (by first | omega | (simp only; omega)) (by first | omega | (simp only; omega))) <| vl mv <| ?_
      refine cl Try.call56 rfl (pickN_c hK hcode hlen (by first | omega | (simp only; omega)) (by first | omega | (simp only; omega)) (by first | omega | (simp only; omega))) ?_
      rintro _ w ⟨⟨k37, rfl, hk37, hkn37⟩, hK⟩
      refine vl (ml rfl rfl (by first | omega | (simp only; omega)) (by first | omega | (simp only; omega))) <| vl (bd [(0, _), (1, _), (2, _)] Ty.p63 Ty.i63 rfl ⟨⟨rfl, rfl⟩, ⟨rfl, rfl⟩, ⟨rfl, rfl⟩, trivial⟩ rfl) <| ?_
      refine bsS1 hK Try.underlying42 Ty.i63 rfl rfl rfl rfl rfl rfl ?_
      intro b40 w hK
      replace hK := hK.midc (A := [_])
      refine apE1 (c := lc) (k := (min (en + 1 + k28) 63, 10 * k34, 10 * k37)) (fun _ => rfl) rfl hK Try.underlying42 Ty.i63 rfl rfl rfl ho rfl (by first | omega | (simp only; omega)) fun v' A' w ho hK => ?_
      replace hK := K.mid (B := [_]) hK
      refine vl asg <| nl <| bkn <| thn <| rg <| vl (mvv (v := .int _ _) rfl) <| vl (ad rfl rfl (by first | omega | (simp only; omega)) (by first | omega | (simp only; omega))) <| vl (asv (v := .int _ _) rfl) <| nl <| thn <| ?_
      exact ⟨(i + 1, _, _, v', _, A'), ⟨rfl, rfl, rfl, rfl, rfl, trivial⟩, ⟨by simp only; omega, by simp only; omega, ⟨by simp only; omega, by simp only; omega⟩, by rw [List.length_append, List.length_singleton]; simp only; omega, ho, hK⟩, by simp only; omega⟩
    · have hi' : (i : Int) = n := by simp only at hc; omega
      refine ex <| the <| the <| bkh <| thn <| sq <| rg <| ?_
      refine vl mv <| vl (mvv (v := .int _ _) rfl) <| ?_
      refine cl Try.call56 rfl (pickN_c hK hcode hlen (by first | omega | (simp only; omega)) (by first | omega | (simp only; omega)) (by first | omega | (simp only; omega))) ?_
      rintro _ w ⟨⟨k44, rfl, hk44, hkn44⟩, hK⟩
      refine vl (asv (v := .int _ _) rfl) <| nl <| thn <| sq <| sq <| rg <| vl mv <| ?_
      refine cl Try.call56 rfl (pickN_c hK hcode hlen (by first | omega | (simp only; omega)) (by first | omega | (simp only; omega)) (by first | omega | (simp only; omega))) ?_
      rintro _ w ⟨⟨k46, rfl, hk46, hkn46⟩, hK⟩
      refine nl <| thn <| bk <| sq <| rg <| vl (eq rfl rfl) <| vl (asv (v := .bool _) rfl) <| nl <| thn <| ?_
      obtain ⟨km, rfl⟩ : ∃ m : Nat, k44 = m := ⟨k44.toNat, by omega⟩
      have hkm : km < ls.length := by omega
      refine cdP rfl (fun hx => ?_) (fun hx => ?_)
      · skip
        refine rg <| ?_
        refine vl mv <| vl (mvv (v := .int _ _) rfl) <| vl mv <| ?_
        refine cl Try.call83 rfl (l91Point_c hK hcode hlen (by first | omega | (simp only; omega)) (by first | omega | (simp only; omega))) ?_
        rintro _ w ⟨k52, p52, rfl, hk52, hkn52, hp52, hq52, hK⟩
        refine vl (ixn Try.underlying42 Ty.s63 rfl ho.slw rfl (by first | omega | (simp only; omega))) <| vl (fe Try.underlying63 rfl Ty.z3 rfl ho.slw (by first | omega | (simp only; omega))) <| ?_
        replace hK := K.mid1 (x := (rb, _)) hK
        refine osSetC (u := .int .i64 k52) (i := km * 3 + 0) hK ho (by first | omega | (simp only; omega)) Ty.i3 rfl rfl rfl rfl fun A' w ho hK => ?_
        rw [flat_set (c := lc) (sz := 3) (fun _ => rfl) ls km 0 ls[km] (k52, ls[km].2) _ (List.getElem?_eq_getElem (by omega)) (by omega) rfl] at ho
        refine nl <| bkn <| thn <| sq <| rg <| vl mv <| vl asg <| nl <| thn <| rt <| p1r (a := _) rfl <| ?_
        obtain ⟨G', hG, hx, hK⟩ := K.pubE (c := lc) (sz := 3) (xs := ls.set km (k52, ls[km].2)) (fun _ => rfl) hK (by rw [List.length_set]; exact ho)
        exact ⟨G', _, _, hG, hx, by rw [List.length_set]; omega, by omega, by omega, hK⟩
      · refine sq <| rg <| ?_
        refine vl (eq rfl rfl) <| vl (asv (v := .bool _) rfl) <| nl <| thn <| ?_
        refine cdP rfl (fun hy => ?_) (fun hy => ?_)
        · skip
          refine rg <| ?_
          refine vl mv <| vl (mvv (v := .int _ _) rfl) <| vl mv <| ?_
          refine cl Try.call83 rfl (l91Point_c hK hcode hlen (by first | omega | (simp only; omega)) (by first | omega | (simp only; omega))) ?_
          rintro _ w ⟨k60, p60, rfl, hk60, hkn60, hp60, hq60, hK⟩
          refine vl (ixn Try.underlying42 Ty.s63 rfl ho.slw rfl (by first | omega | (simp only; omega))) <| vl (fe Try.underlying63 rfl Ty.z3 rfl ho.slw (by first | omega | (simp only; omega))) <| ?_
          replace hK := K.mid1 (x := (rb, _)) hK
          refine osSetC (u := .int .i64 k60) (i := km * 3 + 1) hK ho (by first | omega | (simp only; omega)) Ty.i3 rfl rfl rfl rfl fun A' w ho hK => ?_
          rw [flat_set (c := lc) (sz := 3) (fun _ => rfl) ls km 1 ls[km] (ls[km].1, k60, ls[km].2.2) _ (List.getElem?_eq_getElem (by omega)) (by omega) rfl] at ho
          refine nl <| bkn <| thn <| sq <| rg <| vl mv <| vl asg <| nl <| thn <| rt <| p1r (a := _) rfl <| ?_
          obtain ⟨G', hG, hx, hK⟩ := K.pubE (c := lc) (sz := 3) (xs := ls.set km (ls[km].1, k60, ls[km].2.2)) (fun _ => rfl) hK (by rw [List.length_set]; exact ho)
          exact ⟨G', _, _, hG, hx, by rw [List.length_set]; omega, by omega, by omega, hK⟩
        · refine sq <| rg <| ?_
          refine vl (eq rfl rfl) <| vl (asv (v := .bool _) rfl) <| nl <| thn <| ?_
          refine cdP rfl (fun hz2 => ?_) (fun hz2 => ?_)
          · skip
            refine rg <| ?_
            refine vl mv <| vl (mvv (v := .int _ _) rfl) <| vl mv <| ?_
            refine cl Try.call88 rfl (l91Time_c hK hcode hlen (by first | omega | (simp only; omega)) (by first | omega | (simp only; omega))) ?_
            rintro _ w ⟨k68, p68, rfl, hp68, hq68, hK⟩
            refine vl (ixn Try.underlying42 Ty.s63 rfl ho.slw rfl (by first | omega | (simp only; omega))) <| vl (fe Try.underlying63 rfl Ty.z3 rfl ho.slw (by first | omega | (simp only; omega))) <| ?_
            replace hK := K.mid1 (x := (rb, _)) hK
            refine osSetC (u := .int .i64 k68) (i := km * 3 + 2) hK ho (by first | omega | (simp only; omega)) Ty.i3 rfl rfl rfl rfl fun A' w ho hK => ?_
            rw [flat_set (c := lc) (sz := 3) (fun _ => rfl) ls km 2 ls[km] (ls[km].1, ls[km].2.1, k68) _ (List.getElem?_eq_getElem (by omega)) (by omega) rfl] at ho
            refine nl <| bkn <| thn <| sq <| rg <| vl mv <| vl asg <| nl <| thn <| rt <| p1r (a := _) rfl <| ?_
            obtain ⟨G', hG, hx, hK⟩ := K.pubE (c := lc) (sz := 3) (xs := ls.set km (ls[km].1, ls[km].2.1, k68)) (fun _ => rfl) hK (by rw [List.length_set]; exact ho)
            exact ⟨G', _, _, hG, hx, by rw [List.length_set]; omega, by omega, by omega, hK⟩
          · refine sq <| rg <| ?_
            refine vl (eq rfl rfl) <| vl (asv (v := .bool _) rfl) <| nl <| thn <| ?_
            refine cdP rfl (fun hz3 => ?_) (fun hz3 => ?_)
            · refine rg <| ?_
              refine vl mv <| vl mv <| ?_
              refine cl Try.call56 rfl (pickN_c hK hcode hlen (by first | omega | (simp only; omega)) (by first | omega | (simp only; omega)) (by first | omega | (simp only; omega))) ?_
              rintro _ w ⟨⟨k75, rfl, hk75, hkn75⟩, hK⟩
              obtain ⟨m, rfl⟩ : ∃ m : Nat, k75 = m := ⟨k75.toNat, by omega⟩
              refine vl (slHi (h := m) Try.underlying42 Ty.s63 rfl ho.slw rfl (by first | omega | (simp only; omega))) <| vl asg <| nl <| bkn <| thn <| sq <| rg <| vl mv <| vl asg <| nl <| thn <| rt <| p1r (a := _) rfl <| ?_
              obtain ⟨G', hG, hx, hK⟩ := K.pubE (c := lc) (sz := 3) (xs := ls) (fun _ => rfl) (K.mid1 (x := (rb, _)) hK) ho
              exact ⟨G', _, _, hG, SlR.slc hx (l := 0) (h := m) (by omega) (by omega), by rw [List.length_drop, List.length_take]; omega, by omega, by omega, hK⟩
            · refine sk <| bkn <| thn <| sq <| rg <| ?_
              refine vl mv <| vl asg <| nl <| thn <| rt <| p1r (a := _) rfl <| ?_
              obtain ⟨G', hG, hx, hK⟩ := K.pubE (c := lc) (sz := 3) (xs := ls) (fun _ => rfl) (K.mid1 (x := (rb, _)) hK) ho
              exact ⟨G', _, _, hG, hx, by omega, by omega, by omega, hK⟩

theorem DrawLeasesValid_c (hK : K e w G L) (hc : BytS G cva code) :
    Ret Try.prog 31 #[cva] w (fun r w' => ∃ G' ls, VLe G G' ∧ LeaS G' r ls ∧ ls.length ≤ 12 ∧ K e w' G' L) := by
  refine enter1 (args := [cva]) Try.func31 rfl rfl rfl rfl ?_
  refine sq <| rg <| ?_
  refine vl asg <| nl <| thn <| sq <| rg <| vl mv <| ?_
  refine cl Try.call54 rfl (l6Open_c hK hc) ?_
  rintro _ w ⟨rb, cvb, code, rfl, hcode, hlen, hK⟩
  refine cl Try.call69 rfl (l91Leases_c hK hcode hlen (by first | omega | (simp only; omega)) (by first | omega | (simp only; omega))) ?_
  rintro v w ⟨G1, ls, p', hG1, hl, h12, _, _, hK⟩
  refine vl asg <| nl <| thn <| rt <| p1r (a := _) rfl <| ?_
  exact ⟨G1, ls, hG1, hl, h12, hK.drop1⟩

theorem DrawScanValid_c (hK : K e w G L) (hc : BytS G cva code) :
    Ret Try.prog 22 #[cva] w (fun r w' => ∃ G' t n zs, r = .agg #[.int .i64 n, t] ∧ VLe G G' ∧ IntS G' t zs ∧ zs.length ≤ 67 ∧ K e w' G' L) := by
  refine enterG1 (args := [cva]) Try.func22 rfl rfl rfl rfl ?_
  refine sq <| rg <| ?_
  refine al hK Ty.i33 rfl ?_
  intro b2 w hK
  refine nl <| thn <| sq <| rg <| vl mv <| ?_
  refine cl Try.call54 rfl (l6Open_c hK hc) ?_
  rintro _ w ⟨rb, cvb, code, rfl, hcode, hlen, hK⟩
  refine cl Try.call63 rfl (l92Scan_c hK hcode hlen (by first | omega | (simp only; omega)) (by first | omega | (simp only; omega))) ?_
  rintro t5 w ⟨G1, t, n, zs, p', rfl, hG1, hs, hz, _, _, _, _, hK⟩
  replace hK := hK.drop1
  refine soS hK Ty.i33 0 rfl rfl rfl rfl (allc rfl (allc hs.1.one rfl)) rfl ?_
  intro w hK
  refine nl <| thn <| rt <| pg1r (rvS hK Ty.a33 Ty.s33 0 rfl rfl rfl) <| ?_
  exact ⟨G1, t, n, zs, rfl, hG1, hs, hz, hK.drop1⟩

theorem DrawScanDone_c (hK : K e w G L) (hc : BytS G cva code) :
    Ret Try.prog 30 #[cva] w (fun r w' => ∃ G' t n zs, r = .agg #[.int .i64 n, t] ∧ VLe G G' ∧ IntS G' t zs ∧ zs.length ≤ 67 ∧ K e w' G' L) := by
  refine enterG1 (args := [cva]) Try.func30 rfl rfl rfl rfl ?_
  refine sq <| rg <| ?_
  refine al hK Ty.i33 rfl ?_
  intro b2 w hK
  refine nl <| thn <| sq <| rg <| vl mv <| ?_
  refine cl Try.call54 rfl (l6Open_c hK hc) ?_
  rintro _ w ⟨rb, cvb, code, rfl, hcode, hlen, hK⟩
  refine vl asg <| nl <| thn <| sq <| rg <| vl mv <| ?_
  refine cl Try.call63 rfl (l92Scan_c hK hcode hlen (by first | omega | (simp only; omega)) (by first | omega | (simp only; omega))) ?_
  rintro t8 w ⟨G1, t, n, zs, p', rfl, hG1, hs, hz, _, _, _, _, hK⟩
  replace hcode := hcode.mono hG1
  refine al hK Ty.i33 rfl ?_
  intro b4 w hK
  refine soS hK Ty.i33 0 rfl rfl rfl rfl (allc rfl (allc hs.1.one rfl)) rfl ?_
  intro w hK
  refine nl <| thn <| sq <| sq <| rg <| vl mv <| ?_
  refine cl Try.call56 rfl (pickJ_c 1 hK rfl hcode hlen (by first | omega | (simp only; omega)) (by first | omega | (simp only; omega)) (by first | omega | (simp only; omega))) ?_
  rintro _ w ⟨⟨k10, rfl, hk10, hkn10⟩, hK⟩
  refine vl (eq rfl rfl) <| nl <| thn <| ?_
  refine cdP rfl (fun h => ?_) (fun h => ?_)
  · refine rg <| ?_
    refine vl (fa Try.underlying33 rfl Ty.z3 rfl) <| ?_
    refine so hK Ty.i3 rfl 0 rfl rfl rfl rfl rfl ?_
    intro w hK
    refine nl <| thn <| sq <| rg <| vl (lsO hK Ty.a33 Ty.s33 0 rfl rfl rfl) <| ?_
    refine soS hK Ty.i33 2 rfl rfl rfl rfl (allc rfl (allc hs.1.one rfl)) rfl ?_
    intro w hK
    refine nl <| thn <| rt <| pg1r (rvS hK Ty.a33 Ty.s33 2 rfl rfl rfl) <| ?_
    exact ⟨G1, t, _, zs, rfl, hG1, hs, hz, hK.drop1.drop1.drop1⟩
  · refine sk <| thn <| sq <| rg <| ?_
    refine vl (lsO hK Ty.a33 Ty.s33 0 rfl rfl rfl) <| ?_
    refine soS hK Ty.i33 2 rfl rfl rfl rfl (allc rfl (allc hs.1.one rfl)) rfl ?_
    intro w hK
    refine nl <| thn <| rt <| pg1r (rvS hK Ty.a33 Ty.s33 2 rfl rfl rfl) <| ?_
    exact ⟨G1, t, _, zs, rfl, hG1, hs, hz, hK.drop1.drop1.drop1⟩

theorem DrawScanStep_c (hK : K e w G L) (hc : BytS G cva code) :
    Ret Try.prog 47 #[cva] w (fun r w' => ∃ G' v ls u ks t n zs, r = .tuple #[v, u, .agg #[.int .i64 n, t]] ∧ VLe G G' ∧ LeaS G' v ls ∧ IntS G' u ks ∧ IntS G' t zs ∧ ls.length ≤ 12 ∧ ks.length ≤ 65 ∧ (∀ x ∈ ks.dropLast, 0 ≤ x) ∧ zs.length ≤ 67 ∧ K e w' G' L) := by
  refine enterG3 (args := [cva]) Try.func47 rfl rfl rfl rfl ?_
  refine sq <| rg <| ?_
  refine vl asg <| vl asg <| ?_
  refine al hK Ty.i33 rfl ?_
  intro b4 w hK
  refine nl <| thn <| sq <| rg <| vl mv <| ?_
  refine cl Try.call54 rfl (l6Open_c hK hc) ?_
  rintro _ w ⟨rb, cvb, code, rfl, hcode, hlen, hK⟩
  refine vl asg <| nl <| thn <| sq <| rg <| vl mv <| ?_
  refine cl Try.call69 rfl (l91Leases_c hK hcode hlen (by first | omega | (simp only; omega)) (by first | omega | (simp only; omega))) ?_
  rintro v w ⟨G1, ls, p1, hG1, hv, hl, _, _, hK⟩
  replace hcode := hcode.mono hG1
  refine vl asg <| nl <| thn <| sq <| rg <| vl mv <| ?_
  refine cl Try.call74 rfl (l92Keys_c hK hcode hlen (by first | omega | (simp only; omega)) (by first | omega | (simp only; omega))) ?_
  rintro u w ⟨G2, ks, p2, hG2, hu, hk, hk0, _, _, hK⟩
  replace hcode := hcode.mono hG2
  refine vl asg <| nl <| thn <| sq <| rg <| vl mv <| vl mv <| vl mv <| ?_
  refine cl Try.call63 rfl (l92Scan_c hK hcode hlen (by first | omega | (simp only; omega)) (by first | omega | (simp only; omega))) ?_
  rintro t17 w ⟨G3, t, n, zs, p3, rfl, hG3, hs, hz, _, _, _, _, hK⟩
  refine vl asg <| vl asg <| ?_
  refine soS hK Ty.i33 1 rfl rfl rfl rfl (allc rfl (allc hs.1.one rfl)) rfl ?_
  intro w hK
  refine nl <| thn <| rt <| pg3r (rvT (v := _) rfl) (rvT (v := _) rfl) (rvS hK Ty.a33 Ty.s33 1 rfl rfl rfl) <| ?_
  exact ⟨G3, v, ls, u, ks, t, n, zs, rfl, (hG1.trans hG2).trans hG3, hv.mono (hG2.trans hG3), hu.mono hG3, hs, hl, hk, hk0, hz, hK.drop1.drop1⟩

theorem DrawScanAll_c (hK : K e w G L) (hc : BytS G cva code) :
    Ret Try.prog 35 #[cva] w (fun r w' => ∃ G' v ls u ks, r = .tuple #[v, u] ∧ VLe G G' ∧ LeaS G' v ls ∧ IntS G' u ks ∧ ls.length ≤ 12 ∧ ks.length ≤ 65 ∧ K e w' G' L) := by
  refine enter2 (args := [cva]) Try.func35 rfl rfl rfl rfl ?_
  refine sq <| rg <| ?_
  refine vl asg <| vl asg <| nl <| thn <| sq <| rg <| vl mv <| ?_
  refine cl Try.call54 rfl (l6Open_c hK hc) ?_
  rintro _ w ⟨rb, cvb, code, rfl, hcode, hlen, hK⟩
  refine vl asg <| nl <| thn <| sq <| rg <| vl mv <| ?_
  refine cl Try.call69 rfl (l91Leases_c hK hcode hlen (by first | omega | (simp only; omega)) (by first | omega | (simp only; omega))) ?_
  rintro v w ⟨G1, ls, p1, hG1, hv, hl, _, _, hK⟩
  replace hcode := hcode.mono hG1
  refine vl asg <| nl <| thn <| sq <| rg <| vl mv <| vl mv <| ?_
  refine cl Try.call74 rfl (l92Keys_c hK hcode hlen (by first | omega | (simp only; omega)) (by first | omega | (simp only; omega))) ?_
  rintro u w ⟨G2, ks, p2, hG2, hu, hk, hk0, _, _, hK⟩
  refine vl asg <| vl asg <| nl <| thn <| rt <| p2r (a := _) (b := _) rfl rfl <| ?_
  exact ⟨G2, v, ls, u, ks, rfl, hG1.trans hG2, hv.mono hG2, hu, hl, hk, hK.drop1⟩
end
end Go.Proofs.Ytemeepjdjaabmaa
