/- Contracts of the functions that count honest paths. Conditions: those that each row states. -/
import Derived.Test.YtemeepjdjaabmaaPw
import Derived.Test.YtemeepjdjaabmaaCf
import Derived.Test.YtemeepjdjaabmaaPa
namespace Go.Proofs.Ytemeepjdjaabmaa
open Go Go.Ro

section
variable {e w : World} {G : View} {L : Own} {cva v u : Value} {code xs ys bad : List Int} {xss yss : List (List Int)}

theorem honest1_c {b1 : Nat} {bv : Value} (hK : K e w G ((b1, row [bv] 24) :: L)) (hb : IntS G bv bad) {n : Int} :
    Ret Try.prog 59 #[.int .i64 n, .pointer (some ⟨b1, 0, none⟩)] w (fun r w' => r = .bool (decide (n ∈ bad)) ∧ K e w' G ((b1, row [bv] 24) :: L)) := by
  refine enter1 (args := [.int .i64 n, .pointer (some ⟨b1, 0, none⟩)]) Try.func59 rfl rfl rfl rfl ?_
  refine sq <| rg <| ?_
  refine vl (asv (v := .bool _) rfl) <| nl <| thn <| sq <| rg <| vl (ldO hK Ty.o24 0 rfl rfl rfl) <| vl (mvv (v := .int _ _) rfl) <| ?_
  refine cl Try.call60 rfl (contains_c hK hb) ?_
  rintro _ w ⟨rfl, hK⟩
  refine vl (asv (v := .bool _) rfl) <| nl <| thn <| rt <| p1r (a := .bool _) rfl <| ?_
  exact ⟨rfl, hK⟩

theorem implPathsHonest_c {bv : Value} (hK : K e w G L) (hv : ISS G v xss) (hb : IntS G bv bad) :
    Ret Try.prog 17 #[v, bv] w (fun r w' => r = .int .i64 (honest xss bad) ∧ K e w' G L) := by
  have hle := hv.le
  refine enter1 (args := [v, bv]) Try.func17 rfl rfl rfl rfl ?_
  refine sq <| rg <| ?_
  refine bx1 hK rfl (by exact SlW.one hb.1) ?_
  intro b3 w hK
  refine vl (asv (v := .int _ _) rfl) <| nl <| thn <| sq <| sq <| rg <| vl mv <| ?_
  refine cl Try.call57 rfl (pathsOk_c hK hv) ?_
  rintro _ w ⟨⟨b, rfl, hb0⟩, hK⟩
  refine vl (ntB rfl) <| nl <| thn <| ?_
  refine cdB rfl (fun hx => ?_) (fun hx => ?_)
  · have hno : ¬ PathsOk xss := fun h => by rw [hb0.2 h] at hx; cases hx
    refine sq <| rg <| ?_
    refine vl (asv (v := .int _ _) rfl) <| nl <| thn <| rt <| thr <| p1r (a := .int _ _) rfl <| ?_
    exact ⟨by rw [honest, if_neg hno], K.drop1 hK⟩
  · have hok : PathsOk xss := hb0.1 (by simpa using hx)
    refine sk <| thn <| sq <| rg <| ?_
    refine vl (asv (v := .int _ _) rfl) <| nl <| thn <| sq <| sq <| rg <| vl mv <| vl (ln Try.underlying23 rfl hv.len) <| vl (mvv (v := .int _ _) rfl) <| nl <| thn <| bk <| ?_
    refine lp (σ := Nat) (fun i => [(3, .pointer (some ⟨b3, 0, none⟩)), (5, .int .i64 (((xss.take i).countP (clean bad) : Nat) : Int)), (11, v), (12, .int .i64 (xss.length : Int)), (13, .int .i64 (i : Int))]) (fun i w => i ≤ xss.length ∧ K e w G ((b3, row [bv] 24) :: L)) (fun i => xss.length - i) 0 ⟨rfl, rfl, rfl, rfl, rfl, trivial⟩ ⟨Nat.zero_le _, hK⟩ ?_
    rintro i g w ⟨hi, hK⟩
    have hcp := countP_take_le (p := clean bad) xss i
    refine sq <| rg <| ?_
    refine vl (lt rfl rfl) <| nl <| thn <| sq <| ?_
    refine cdP rfl (fun hc => ?_) (fun hc => ?_)
    · have hi' : i < xss.length := by omega
      obtain ⟨u, hu, hui⟩ := hv.at hi'
      have hs := countP_take_succ (p := clean bad) hi'
      refine sk <| thn <| sq <| bk <| sq <| rg <| ?_
      refine vl (ixn1 Try.underlying23 Ty.s24 rfl hv.1 rfl (by first | omega | (simp only; omega))) <| vl (ldV hK Ty.o24 rfl hu) <| vl asg <| nl <| thn <| sq <| rg <| vl mv <| vl (mkf rfl) <| ?_
      refine cl Try.call58 rfl (containsFunc_c (cap := [.pointer (some ⟨b3, 0, none⟩)]) (q := fun x => decide (x ∈ bad)) Try.call59 hK hui (fun x w hK => honest1_c hK hb)) ?_
      rintro _ w ⟨⟨b, rfl, hb1⟩, hK⟩
      rw [clean_any] at hb1
      refine vl (ntB rfl) <| nl <| thn <| ?_
      refine cdB rfl (fun hq => ?_) (fun hq => ?_)
      · have hcl : clean bad xss[i] = true := by
          cases hcc : clean bad xss[i]
          · rw [hb1.2 hcc] at hq; cases hq
          · rfl
        rw [hcl] at hs
        refine rg <| ?_
        refine vl (mvv (v := .int _ _) rfl) <| vl (ad rfl rfl (by first | omega | (simp only; omega)) (by first | omega | (simp only; omega))) <| vl (asv (v := .int _ _) rfl) <| nl <| bkn <| thn <| rg <| vl (ad rfl rfl (by first | omega | (simp only; omega)) (by first | omega | (simp only; omega))) <| vl (mvv (v := .int _ _) rfl) <| nl <| thn <| ?_
        exact ⟨i + 1, ⟨rfl, by rw [hs]; rfl, rfl, rfl, rfl, trivial⟩, ⟨hi', hK⟩, by omega⟩
      · have hcl : clean bad xss[i] = false := hb1.1 (by simpa using hq)
        rw [hcl] at hs
        refine sk <| bkn <| thn <| rg <| ?_
        refine vl (ad rfl rfl (by first | omega | (simp only; omega)) (by first | omega | (simp only; omega))) <| vl (mvv (v := .int _ _) rfl) <| nl <| thn <| ?_
        exact ⟨i + 1, ⟨rfl, by rw [hs]; rfl, rfl, rfl, rfl, trivial⟩, ⟨hi', hK⟩, by omega⟩
    · have hi' : i = xss.length := by omega
      subst hi'
      refine ex <| the <| the <| bkh <| thn <| sq <| rg <| ?_
      refine vl (mvv (v := .int _ _) rfl) <| vl (asv (v := .int _ _) rfl) <| nl <| thn <| rt <| p1r (a := .int _ _) rfl <| ?_
      exact ⟨by rw [honest, if_pos hok, List.take_length], K.drop1 hK⟩

theorem specPathsHonest_c {bv : Value} (hK : K e w G L) (hv : ISS G v xss) (hb : IntS G bv bad) :
    Ret Try.prog 18 #[v, bv] w (fun r w' => r = .int .i64 (honest xss bad) ∧ K e w' G L) := by
  have hle := hv.le
  refine enter1 (args := [v, bv]) Try.func18 rfl rfl rfl rfl ?_
  refine sq <| rg <| ?_
  refine vl (asv (v := .int _ _) rfl) <| nl <| thn <| sq <| sq <| rg <| vl mv <| ?_
  refine cl Try.call61 rfl (l32Paths_c hK hv) ?_
  rintro _ w ⟨⟨b, rfl, hb0⟩, hK⟩
  refine vl (ntB rfl) <| nl <| thn <| ?_
  refine cdB rfl (fun hx => ?_) (fun hx => ?_)
  · have hno : ¬ PathsOk xss := fun h => by rw [hb0.2 h] at hx; cases hx
    refine sq <| rg <| ?_
    refine vl (asv (v := .int _ _) rfl) <| nl <| thn <| rt <| thr <| p1r (a := .int _ _) rfl <| ?_
    exact ⟨by rw [honest, if_neg hno], hK⟩
  · have hok : PathsOk xss := hb0.1 (by simpa using hx)
    refine sk <| thn <| sq <| rg <| ?_
    refine vl (asv (v := .int _ _) rfl) <| nl <| thn <| sq <| sq <| rg <| vl (asv (v := .int _ _) rfl) <| nl <| thn <| bk <| ?_
    refine lp (σ := Nat) (fun i => [(0, v), (1, bv), (5, .int .i64 (((xss.take i).countP (clean bad) : Nat) : Int)), (6, .int .i64 (i : Int))]) (fun i w => i ≤ xss.length ∧ K e w G L) (fun i => xss.length - i) 0 ⟨rfl, rfl, rfl, rfl, trivial⟩ ⟨Nat.zero_le _, hK⟩ ?_
    rintro i g w ⟨hi, hK⟩
    have hcp := countP_take_le (p := clean bad) xss i
    refine sq <| sq <| rg <| ?_
    refine vl (mvv (v := .int _ _) rfl) <| vl mv <| vl (ln Try.underlying23 rfl hv.len) <| vl (lt rfl rfl) <| nl <| thn <| ?_
    refine cdP rfl (fun hc => ?_) (fun hc => ?_)
    · have hi' : i < xss.length := by omega
      obtain ⟨u, hu, hui⟩ := hv.at hi'
      have hs := countP_take_succ (p := clean bad) hi'
      have hule := hui.le
      refine sk <| thn <| sq <| bk <| sq <| rg <| ?_
      refine vl (asv (v := .int _ _) rfl) <| nl <| thn <| sq <| sq <| rg <| vl (asv (v := .int _ _) rfl) <| nl <| thn <| bk <| ?_
      refine lp (σ := Nat) (fun k => [(0, v), (1, bv), (5, .int .i64 (((xss.take i).countP (clean bad) : Nat) : Int)), (6, .int .i64 (i : Int)), (7, .int .i64 (if clean bad (xss[i].take k) then 1 else 0)), (8, .int .i64 (k : Int))]) (fun k w => k ≤ xss[i].length ∧ K e w G L) (fun k => xss[i].length - k) 0 ⟨rfl, rfl, rfl, rfl, rfl, rfl, trivial⟩ ⟨Nat.zero_le _, hK⟩ ?_
      rintro k g w ⟨hk, hK⟩
      refine sq <| sq <| rg <| ?_
      refine vl (mvv (v := .int _ _) rfl) <| vl mv <| vl (mvv (v := .int _ _) rfl) <| vl (ixn1 Try.underlying23 Ty.s24 rfl hv.1 rfl (by first | omega | (simp only; omega))) <| vl (ldV hK Ty.o24 rfl hu) <| vl (ln Try.underlying24 rfl hui.len) <| vl (lt rfl rfl) <| nl <| thn <| ?_
      refine cdP rfl (fun hd => ?_) (fun hd => ?_)
      · have hk' : k < xss[i].length := by omega
        have hcs := clean_take_succ (bad := bad) hk'
        refine sk <| thn <| sq <| bk <| sq <| rg <| ?_
        refine vl mv <| vl mv <| vl (mvv (v := .int _ _) rfl) <| vl (ixn1 Try.underlying23 Ty.s24 rfl hv.1 rfl (by first | omega | (simp only; omega))) <| vl (ldV hK Ty.o24 rfl hu) <| vl (mvv (v := .int _ _) rfl) <| vl (ixn1 Try.underlying24 Ty.s3 rfl hui.1 rfl (by first | omega | (simp only; omega))) <| vl (ldV hK Ty.o3 rfl (hui.at (by first | omega | (simp only; omega)))) <| ?_
        refine cl Try.call62 rfl (l1Has_c hK (by assumption)) ?_
        rintro _ w ⟨rfl, hK⟩
        refine nl <| thn <| ?_
        refine cdP rfl (fun hm => ?_) (fun hm => ?_)
        · refine rg <| ?_
          refine vl (asv (v := .int _ _) rfl) <| nl <| bkn <| thn <| rg <| vl (mvv (v := .int _ _) rfl) <| vl (ad rfl rfl (by first | omega | (simp only; omega)) (by first | omega | (simp only; omega))) <| vl (asv (v := .int _ _) rfl) <| nl <| thn <| ?_
          exact ⟨k + 1, ⟨rfl, rfl, rfl, rfl, by rw [hcs, decide_eq_false (p := xss[i][k] ∉ bad) (fun h => h hm), Bool.and_false]; rfl, rfl, trivial⟩, ⟨hk', hK⟩, by omega⟩
        · refine sk <| bkn <| thn <| rg <| ?_
          refine vl (mvv (v := .int _ _) rfl) <| vl (ad rfl rfl (by first | omega | (simp only; omega)) (by first | omega | (simp only; omega))) <| vl (asv (v := .int _ _) rfl) <| nl <| thn <| ?_
          exact ⟨k + 1, ⟨rfl, rfl, rfl, rfl, by rw [hcs, decide_eq_true (p := xss[i][k] ∉ bad) hm, Bool.and_true]; rfl, rfl, trivial⟩, ⟨hk', hK⟩, by omega⟩
      · have hk' : k = xss[i].length := by omega
        subst hk'
        refine ex <| the <| the <| bkh <| thn <| rg <| ?_
        refine vl (mvv (v := .int _ _) rfl) <| vl (mvv (v := .int _ _) rfl) <| vl (ad rfl rfl (by split <;> omega) (by split <;> omega)) <| vl (asv (v := .int _ _) rfl) <| nl <| bkn <| thn <| rg <| vl (mvv (v := .int _ _) rfl) <| vl (ad rfl rfl (by first | omega | (simp only; omega)) (by first | omega | (simp only; omega))) <| vl (asv (v := .int _ _) rfl) <| nl <| thn <| ?_
        rw [List.take_length]
        refine ⟨i + 1, ⟨rfl, rfl, ?_, rfl, trivial⟩, ⟨hi', hK⟩, by omega⟩
        rw [hs]
        cases clean bad xss[i] <;> rfl
    · have hi' : i = xss.length := by omega
      subst hi'
      refine ex <| the <| the <| bkh <| thn <| sq <| rg <| ?_
      refine vl (mvv (v := .int _ _) rfl) <| vl (asv (v := .int _ _) rfl) <| nl <| thn <| rt <| p1r (a := .int _ _) rfl <| ?_
      exact ⟨by rw [honest, if_pos hok, List.take_length], hK⟩

theorem DrawPathsHonest_c (hK : K e w G L) (hc : BytS G cva code) :
    Ret Try.prog 16 #[cva] w (fun r w' => ∃ G' v xss bv bad, r = .tuple [v, bv].toArray ∧ VLe G G' ∧ ISS G' v xss ∧ IntS G' bv bad ∧ xss.length ≤ 9 ∧ bad.length ≤ 5 ∧ K e w' G' L) := by
  refine enter2 (args := [cva]) Try.func16 rfl rfl rfl rfl ?_
  refine sq <| rg <| ?_
  refine vl asg <| vl asg <| nl <| thn <| sq <| rg <| vl mv <| ?_
  refine cl Try.call54 rfl (l6Open_c hK hc) ?_
  rintro _ w ⟨rb, cvb, code, rfl, hcode, hlen, hK⟩
  refine vl asg <| nl <| thn <| sq <| rg <| vl mv <| ?_
  refine cl Try.call55 rfl (l92Paths_c hK hcode hlen (by first | omega | (simp only; omega)) (by first | omega | (simp only; omega))) ?_
  rintro v w ⟨G1, xss, p1, hG1, hv, h9, hp0, hp1, hK⟩
  replace hcode := hcode.mono hG1
  refine vl asg <| nl <| thn <| sq <| rg <| ?_
  refine bs0 hK Try.underlying24 Ty.i3 ?_
  intro b12 w hK
  refine vl asg <| nl <| thn <| sq <| sq <| rg <| vl (asv (v := .int _ _) rfl) <| nl <| thn <| bk <| ?_
  refine lp (σ := Nat × Int × Value × List Int × Own) (fun s => [(4, .pointer (some ⟨rb, 0, none⟩)), (5, v), (6, s.2.2.1), (7, .int .i64 (s.1 : Int))]) (fun s w => s.1 ≤ 5 ∧ 0 ≤ s.2.1 ∧ s.2.1 ≤ 3000 + 2 * s.1 ∧ s.2.2.2.1.length = s.1 ∧ OS 1 3 s.2.2.1 s.1 (ints s.2.2.2.1) s.2.2.2.2 ∧ K e w G1 ((rb, row [cvb, .int .i64 s.2.1] 91) :: (s.2.2.2.2 ++ L))) (fun s => 5 - s.1) (0, p1, .slice (some ⟨b12, 0, none⟩) 0 0, [], [(b12, row [] 3)]) ⟨rfl, rfl, rfl, rfl, trivial⟩ ⟨Nat.zero_le _, hp0, hp1, rfl, OS.lit rfl (Nat.zero_le _), K.mid1 (B := [_]) hK⟩ ?_
  rintro ⟨i, p, bv, xs, A⟩ g w ⟨h1, h2, h3, h4, ho, hK⟩
  simp only at h1 h2 h3 h4 ho hK
  refine sq <| sq <| rg <| ?_
  refine vl (mvv (v := .int _ _) rfl) <| vl mv <| ?_
  refine cl Try.call56 rfl (pickN_c hK hcode hlen (by first | omega | (simp only; omega)) (by first | omega | (simp only; omega)) (by first | omega | (simp only; omega))) ?_
  rintro _ w ⟨⟨k15, rfl, hk15, hkn15⟩, hK⟩
  refine vl (lt rfl rfl) <| nl <| thn <| ?_
  refine cdP rfl (fun hlt => ?_) (fun hlt => ?_)
  · refine sk <| thn <| sq <| bk <| rg <| ?_
    refine vl mv <| vl mv <| ?_
    refine cl Try.call56 rfl (pickN_c hK hcode hlen (by first | omega | (simp only; omega)) (by first | omega | (simp only; omega)) (by first | omega | (simp only; omega))) ?_
    rintro _ w ⟨⟨k21, rfl, hk21, hkn21⟩, hK⟩
    refine bsN [.tmp 21] hK Try.underlying24 Ty.i3 rfl rfl rfl rfl rfl rfl rfl rfl ?_
    intro b22 w hK
    replace hK := hK.perm (List.perm_middle.cons _)
    refine ap1 (news := [.int .i64 k21]) hK Try.underlying24 Ty.i3 rfl rfl rfl ho rfl rfl rfl (by first | omega | (simp only; omega)) fun v' A' w ho' hK => ?_
    refine vl asg <| nl <| bkn <| thn <| rg <| vl (mvv (v := .int _ _) rfl) <| vl (ad rfl rfl (by first | omega | (simp only; omega)) (by first | omega | (simp only; omega))) <| vl (asv (v := .int _ _) rfl) <| nl <| thn <| ?_
    refine ⟨⟨i + 1, p + 1 + 1, v', xs ++ [k21], A'⟩, ⟨rfl, rfl, rfl, rfl, trivial⟩, ⟨by omega, ?_, ?_, by simp [h4], by simpa [ints] using ho', K.back1 hK⟩, by simp only; omega⟩
    · show 0 ≤ p + 1 + 1; omega
    · show p + 1 + 1 ≤ 3000 + 2 * ((i + 1 : Nat) : Int); omega
  · refine ex <| the <| the <| bkh <| thn <| sq <| rg <| ?_
    refine vl mv <| vl mv <| vl asg <| vl asg <| nl <| thn <| rt <| p2r (a := _) (b := _) rfl rfl <| ?_
    obtain ⟨G2, hG2, hx, hK⟩ := (K.drop1 hK).pubO (h4 ▸ ho)
    exact ⟨G2, v, xss, bv, xs, rfl, hG1.trans hG2, hv.mono hG2, hx, h9, by omega, hK⟩

set_option maxHeartbeats 1000000 in theorem FnPathsOutvote_c {cvb : Value} {cod : List Int} (hK : K e w G L) (hc : BytS G cva code) (hc2 : BytS G cvb cod) : Ret Try.prog 3 #[cva, cvb] w (fun r w' => r = .bool true ∧ ∃ G' L', K e w' G' L' ∧ VLe G G') := by
  have hcl := hc2.le
  refine enter1 (args := [cva, cvb]) Try.func3 rfl rfl rfl rfl ?_
  refine sq <| rg <| ?_
  refine vl (asv (v := .bool _) rfl) <| nl <| thn <| sq <| sq <| rg <| vl mv <| vl (ln Try.underlying22 rfl hc.len) <| vl (gt rfl rfl) <| vl (mvv (v := .bool _) rfl) <| ?_
  refine splP (t := 16) rfl (fun h1 => ?_) (fun h1 => ?_)
  · refine gn rfl <| gn rfl <| gn rfl <| vl (pk rfl) <| nl <| thn <| ?_
    refine cdt rfl ?_
    refine sq <| rg <| ?_
    refine vl (asv (v := .bool _) rfl) <| nl <| thn <| rt <| thr <| p1r (a := .bool _) rfl <| ?_
    exact ⟨rfl, _, _, hK, VLe.refl _⟩
  · refine gy rfl <| vl mv <| gy rfl <| vl (ln Try.underlying22 rfl hc2.len) <| gy rfl <| vl (gt rfl rfl) <| vl (pk rfl) <| nl <| thn <| ?_
    refine cdP rfl (fun h2 => ?_) (fun h2 => ?_)
    · refine sq <| rg <| ?_
      refine vl (asv (v := .bool _) rfl) <| nl <| thn <| rt <| thr <| p1r (a := .bool _) rfl <| ?_
      exact ⟨rfl, _, _, hK, VLe.refl _⟩
    · refine sk <| thn <| sq <| rg <| ?_
      refine vl mv <| ?_
      refine cl Try.call16 rfl (DrawPathsHonest_c hK hc) ?_
      rintro _ w ⟨G1, v, xss, bv, bad, rfl, hG1, hv, hb, h9, hb5, hK⟩
      refine vl mv <| vl (ext rfl rfl) <| vl (ext rfl rfl) <| vl asg <| vl asg <| nl <| thn <| sq <| rg <| vl mv <| vl mv <| ?_
      have hh := honest_le xss bad
      have hble := hb.le
      refine cl Try.call17 rfl (implPathsHonest_c hK hv hb) ?_
      rintro _ w ⟨rfl, hK⟩
      refine vl (asv (v := .int _ _) rfl) <| nl <| thn <| sq <| rg <| vl mv <| vl mv <| ?_
      refine cl Try.call18 rfl (specPathsHonest_c hK hv hb) ?_
      rintro _ w ⟨rfl, hK⟩
      refine vl (asv (v := .int _ _) rfl) <| nl <| thn <| sq <| sq <| rg <| vl (mvv (v := .int _ _) rfl) <| vl (mvv (v := .int _ _) rfl) <| vl (ne rfl rfl) <| vl (mvv (v := .bool _) rfl) <| ?_
      refine splP (t := 35) rfl (fun hne => ?_) (fun hne => ?_)
      · exact absurd rfl hne
      · have _ := trivial
        refine gy rfl <| vl (mvv (v := .int _ _) rfl) <| gy rfl <| vl (lt rfl rfl) <| vl (pk rfl) <| nl <| thn <| ?_
        refine cdP rfl (fun hneg => ?_) (fun hneg => ?_)
        · refine sq <| rg <| ?_
          refine vl (mvv (v := .int _ _) rfl) <| vl (mvv (v := .int _ _) rfl) <| vl (eq rfl rfl) <| vl (asv (v := .bool _) rfl) <| nl <| thn <| rt <| thr <| p1r (a := .bool _) rfl <| ?_
          exact ⟨by simp, _, _, hK, hG1⟩
        · refine sk <| thn <| sq <| sq <| rg <| ?_
          refine vl mv <| ?_
          have hok : PathsOk xss := by
            by_cases h : PathsOk xss
            · exact h
            · rw [honest, if_neg h] at hneg; omega
          refine cl Try.call19 rfl (implPathsDisjoint_c hK hv) ?_
          rintro _ w ⟨⟨b, rfl, hb1⟩, hK⟩
          refine vl (ntB rfl) <| vl (mvv (v := .bool _) rfl) <| ?_
          refine spl (t := 45) rfl (fun hd => ?_) (fun hd => ?_)
          · refine gn rfl <| gn rfl <| gn rfl <| gn rfl <| gn rfl <| gn rfl <| vl (pk rfl) <| nl <| thn <| ?_
            refine cdt rfl ?_
            refine sq <| rg <| ?_
            refine vl (asv (v := .bool _) rfl) <| nl <| thn <| rt <| thr <| p1r (a := .bool _) rfl <| ?_
            exact ⟨rfl, _, _, hK, hG1⟩
          · have hD : Disj xss := hb1.1 (by simpa using hd)
            have h1 := hD.honest bad
            refine gy rfl <| vl mv <| gy rfl <| vl (ln Try.underlying23 rfl hv.len) <| gy rfl <| vl mv <| gy rfl <| vl (ln Try.underlying24 rfl hb.len) <| gy rfl <| vl (ml rfl rfl (by first | omega | (simp only; omega)) (by first | omega | (simp only; omega))) <| gy rfl <| vl (le rfl rfl) <| vl (pk rfl) <| nl <| thn <| ?_
            refine cdP rfl (fun hmany => ?_) (fun hmany => ?_)
            · refine sq <| rg <| ?_
              refine vl (asv (v := .bool _) rfl) <| nl <| thn <| rt <| thr <| p1r (a := .bool _) rfl <| ?_
              exact ⟨rfl, _, _, hK, hG1⟩
            · refine sk <| thn <| sq <| rg <| ?_
              refine bs0 hK Try.underlying24 Ty.i3 ?_
              intro b53 w hK
              refine vl asg <| nl <| thn <| sq <| sq <| rg <| vl (asv (v := .int _ _) rfl) <| nl <| thn <| bk <| ?_
              obtain ⟨y, hy⟩ : ∃ y : Int, y = (cod.length : Int) % 9 := ⟨_, rfl⟩
              refine lp (σ := Nat × Value × List Int × Own) (fun s => [(1, cvb), (5, v), (6, bv), (9, s.2.1), (10, .int .i64 (s.1 : Int))]) (fun s w => s.1 ≤ xss.length ∧ s.2.2.1.length = s.1 ∧ (xss.take s.1).countP (clean bad) ≤ s.2.2.1.count 7 ∧ OS 1 3 s.2.1 s.1 (ints s.2.2.1) s.2.2.2 ∧ K e w G1 (s.2.2.2 ++ L)) (fun s => xss.length - s.1) (0, .slice (some ⟨b53, 0, none⟩) 0 0, [], [(b53, row [] 3)]) ⟨rfl, rfl, rfl, rfl, rfl, trivial⟩ ⟨Nat.zero_le _, rfl, by simp, OS.lit rfl (Nat.zero_le _), hK⟩ ?_
              rintro ⟨i, va, zs, A⟩ g w ⟨g1, g2, g3, ho, hK⟩
              simp only at g1 g2 g3 ho hK
              refine sq <| sq <| rg <| ?_
              refine vl (mvv (v := .int _ _) rfl) <| vl mv <| vl (ln Try.underlying23 rfl hv.len) <| vl (lt rfl rfl) <| nl <| thn <| ?_
              refine cdP rfl (fun hi => ?_) (fun hi => ?_)
              · have hi' : i < xss.length := by simp only at hi; omega
                obtain ⟨u, hu, hui⟩ := hv.at hi'
                have hule := hui.le
                have hs := countP_take_succ (p := clean bad) hi'
                refine sk <| thn <| sq <| bk <| sq <| rg <| ?_
                refine vl (asv (v := .int _ _) rfl) <| nl <| thn <| sq <| sq <| rg <| vl (asv (v := .int _ _) rfl) <| nl <| thn <| bk <| ?_
                refine lp (σ := Nat) (fun k => [(1, cvb), (5, v), (6, bv), (9, va), (10, .int .i64 (i : Int)), (11, .int .i64 (if clean bad (xss[i].take k) then 7 else y)), (12, .int .i64 (k : Int))]) (fun k w => k ≤ xss[i].length ∧ K e w G1 (A ++ L)) (fun k => xss[i].length - k) 0 ⟨rfl, rfl, rfl, rfl, rfl, rfl, rfl, trivial⟩ ⟨Nat.zero_le _, hK⟩ ?_
                rintro k g w ⟨hk, hK⟩
                refine sq <| sq <| rg <| ?_
                refine vl (mvv (v := .int _ _) rfl) <| vl mv <| vl (mvv (v := .int _ _) rfl) <| vl (ixn1 Try.underlying23 Ty.s24 rfl hv.1 rfl (by first | omega | (simp only; omega))) <| vl (ldV hK Ty.o24 rfl hu) <| vl (ln Try.underlying24 rfl hui.len) <| vl (lt rfl rfl) <| nl <| thn <| ?_
                refine cdP rfl (fun hd2 => ?_) (fun hd2 => ?_)
                · have hk' : k < xss[i].length := by omega
                  have hcs := clean_take_succ (bad := bad) hk'
                  refine sk <| thn <| sq <| bk <| sq <| rg <| ?_
                  refine vl mv <| vl mv <| vl (mvv (v := .int _ _) rfl) <| vl (ixn1 Try.underlying23 Ty.s24 rfl hv.1 rfl (by first | omega | (simp only; omega))) <| vl (ldV hK Ty.o24 rfl hu) <| vl (mvv (v := .int _ _) rfl) <| vl (ixn1 Try.underlying24 Ty.s3 rfl hui.1 rfl (by first | omega | (simp only; omega))) <| vl (ldV hK Ty.o3 rfl (hui.at (by first | omega | (simp only; omega)))) <| ?_
                  refine cl Try.call20 rfl (hasInt_c hK (by assumption)) ?_
                  rintro _ w ⟨rfl, hK⟩
                  refine nl <| thn <| ?_
                  refine cdP rfl (fun hm => ?_) (fun hm => ?_)
                  · refine rg <| ?_
                    refine vl mv <| vl (ln Try.underlying22 rfl hc2.len) <| vl (rm rfl rfl (by first | omega | (simp only; omega)) (by first | omega | (simp only; omega))) <| vl (asv (v := .int _ _) rfl) <| nl <| bkn <| thn <| rg <| vl (mvv (v := .int _ _) rfl) <| vl (ad rfl rfl (by first | omega | (simp only; omega)) (by first | omega | (simp only; omega))) <| vl (asv (v := .int _ _) rfl) <| nl <| thn <| ?_
                    exact ⟨k + 1, ⟨rfl, rfl, rfl, rfl, rfl, by rw [hcs, decide_eq_false (p := xss[i][k] ∉ bad) (fun h => h hm), Bool.and_false, hy]; rfl, rfl, trivial⟩, ⟨hk', hK⟩, by omega⟩
                  · refine sk <| bkn <| thn <| rg <| ?_
                    refine vl (mvv (v := .int _ _) rfl) <| vl (ad rfl rfl (by first | omega | (simp only; omega)) (by first | omega | (simp only; omega))) <| vl (asv (v := .int _ _) rfl) <| nl <| thn <| ?_
                    exact ⟨k + 1, ⟨rfl, rfl, rfl, rfl, rfl, by rw [hcs, decide_eq_true (p := xss[i][k] ∉ bad) hm, Bool.and_true]; rfl, rfl, trivial⟩, ⟨hk', hK⟩, by omega⟩
                · have hk' : k = xss[i].length := by omega
                  subst hk'
                  refine ex <| the <| the <| bkh <| thn <| rg <| ?_
                  refine vl mv <| vl (mvv (v := .int _ _) rfl) <| ?_
                  refine bsN [.tmp 82] hK Try.underlying24 Ty.i3 rfl rfl rfl rfl rfl rfl rfl rfl ?_
                  intro b83 w hK
                  refine ap1 (news := [.int .i64 (if clean bad (xss[i].take xss[i].length) then 7 else y)]) hK Try.underlying24 Ty.i3 rfl rfl rfl ho rfl rfl rfl (by first | omega | (simp only; omega)) fun v' A' w ho' hK => ?_
                  refine vl asg <| nl <| bkn <| thn <| rg <| vl (mvv (v := .int _ _) rfl) <| vl (ad rfl rfl (by first | omega | (simp only; omega)) (by first | omega | (simp only; omega))) <| vl (asv (v := .int _ _) rfl) <| nl <| thn <| ?_
                  refine ⟨⟨i + 1, v', zs ++ [if clean bad (xss[i].take xss[i].length) then 7 else y], A'⟩, ⟨rfl, rfl, rfl, rfl, rfl, trivial⟩, ⟨hi', by simp [g2], ?_, by simpa [ints] using ho', hK⟩, by simp only; omega⟩
                  show (xss.take (i + 1)).countP (clean bad) ≤ (zs ++ [_]).count 7
                  rw [hs, List.count_append, List.take_length]
                  cases clean bad xss[i] <;> simp <;> omega
              · have hi' : i = xss.length := by simp only at hi; omega
                subst hi'
                obtain ⟨G2, hG2, hz, hK⟩ := hK.pubO (g2 ▸ ho)
                rw [List.take_length] at g3
                have h7 := hok.1
                refine ex <| the <| the <| bkh <| thn <| sq <| rg <| ?_
                refine vl mv <| ?_
                refine cl Try.call21 rfl (implPathsAnswer_c hK (by assumption)) ?_
                rintro _ w ⟨⟨s2, rfl, hs2⟩, hK⟩
                refine vl (eq rfl rfl) <| vl (asv (v := .bool _) rfl) <| nl <| thn <| rt <| p1r (a := .bool _) rfl <| ?_
                exact ⟨by rw [decide_eq_true]; exact hs2.of (by omega) (by omega), _, _, hK, hG1.trans hG2⟩
end
end Go.Proofs.Ytemeepjdjaabmaa
