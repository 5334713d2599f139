/- Contracts of functions on strings: numbers and names. Contracts of functions on strings: what the specification prints. Conditions: those that each row states. -/
import Derived.Test.YtbiihblpgfgaoabGreatDoorXb
import Derived.Test.YtbiihblpgfgaoabGreatDoorSpM
import Derived.Test.YtbiihblpgfgaoabGreatDoorEvM
import Derived.Test.YtbiihblpgfgaoabGreatDoorDf
namespace Go.Proofs.YtbiihblpgfgaoabGreatDoor
open Go Go.Ro Tryz
section
variable {e w : World} {G : View} {L A : Own} {v u : Value} {n : Int} {k m : Nat} {l : List UInt8} {ws : List (List UInt8)}
theorem l61Num_c (hK : K e w G L) (hv : StrS G v ws) : Ret prog 38 #[v, .int .i64 (k : Int)] w (fun r w' => r = .int .i64 (numL ws k) ∧ K e w' G L) := by
 have hle := hv.1.le
 refine enter1 (args := [v, .int .i64 (k : Int)]) func38 rfl rfl rfl rfl ?_
 refine sq <| rg <| ?_
 refine vl (aI rfl) <| nl <| thn <| sq <| sq <| rg <| vl (mI rfl) <| vl mv <| vl (ln underlying47 rfl hv.len) <| vl (ge rfl rfl) <| vl (mB rfl) <| ?_
 refine splP (t := 11) rfl (fun h1 => ?_) fun h1 => ?_
 ·refine gn rfl <| gn rfl <| gn rfl <| gn rfl <| gn rfl <| gn rfl <| gn rfl <| vl (pk rfl) <| nl <| thn <| ?_
  refine cdt rfl ?_
  refine sq <| rg <| ?_
  refine vl (aI rfl) <| nl <| thn <| rt <| thr <| p1r (a := .int _ _) rfl <| ?_
  exact ⟨by rw [numL_no (by omega)], hK⟩
 ·have hk : k < ws.length := by omega
  have hcl := StrS.cell hv hk
  rw [numL_yes hk]
  refine gy rfl <| vl mv <| gy rfl <| vl (mI rfl) <| gy rfl <| vl (ixm1 (m := k) underlying47 Ty.s9 rfl hv.1 rfl om om) <| gy rfl <| vl (ldV hK Ty.o9 rfl hcl) <| gy rfl <| vl (sln underlying9 rfl) <| gy rfl <| ?_
  refine cl call60 rfl (l6In_c (C := fun w => K _ w _ _) hK) ?_
  rintro _ w ⟨rfl, hK⟩
  refine gy rfl <| vl (ntB rfl) <| vl (pk rfl) <| nl <| thn <| ?_
  refine cdB rfl (fun h2 => ?_) fun h2 => ?_
  ·have h2' : ¬ (1 ≤ ws[k].length ∧ ws[k].length ≤ 2) := by
    have := of_decide_eq_false (Eq.mp (Bool.not_eq_true' _) h2); omega
   refine sq <| rg <| ?_
   refine vl (aI rfl) <| nl <| thn <| rt <| thr <| p1r (a := .int _ _) rfl <| ?_
   exact ⟨by unfold numW; rw [if_neg h2'], hK⟩
  ·have h2' : 1 ≤ ws[k].length ∧ ws[k].length ≤ 2 := by
    have := of_decide_eq_true (Eq.mp (Bool.not_eq_false' _) h2); omega
   have hnw : numW ws[k] = numA 0 ws[k] := by unfold numW; rw [if_pos h2']
   rw [hnw]
   refine sk <| thn <| sq <| rg <| ?_
   refine vl (aI rfl) <| nl <| thn <| sq <| sq <| rg <| vl (aI rfl) <| nl <| thn <| bk <| ?_
   refine lp (σ := Nat × Int) (fun s => [(0, v), (1, .int .i64 (k : Int)), (5, .int .i64 s.2), (6, .int .i64 (s.1 : Int))]) (fun s w => s.1 ≤ ws[k].length ∧ numA s.2 (ws[k].drop s.1) = numA 0 ws[k] ∧ (0 ≤ s.2 ∧ (s.1 = 0 → s.2 = 0) ∧ (s.1 = 1 → s.2 ≤ 9) ∧ (s.1 = 2 → s.2 ≤ 99)) ∧ K e w G L) (fun s => ws[k].length - s.1) (0, 0) ⟨rfl, rfl, rfl, rfl, trivial⟩ ⟨Nat.zero_le _, rfl, ⟨Int.le_refl _, by simp, by simp, by simp⟩, hK⟩ ?_
   rintro ⟨i, a⟩ g w ⟨hi, he, ⟨ha0, ha1, ha2, ha3⟩, hK⟩
   simp only at hi he ha0 ha1 ha2 ha3 hK
   refine sq <| sq <| rg <| ?_
   refine vl (mI rfl) <| vl mv <| vl (mI rfl) <| vl (ixm1 (m := k) underlying47 Ty.s9 rfl hv.1 rfl om om) <| vl (ldV hK Ty.o9 rfl hcl) <| vl (sln underlying9 rfl) <| vl (lt rfl rfl) <| nl <| thn <| ?_
   refine cdP rfl (fun hc => ?_) fun hc => ?_
   ·have hi' : i < ws[k].length := by simp only at hc; omega
    have hp : a ≤ 99 := by omega
    have hb := ws[k][i].toNat_lt
    refine sk <| thn <| sq <| bk <| sq <| sq <| rg <| ?_
    refine vl mv <| vl (mI rfl) <| vl (ixm1 (m := k) underlying47 Ty.s9 rfl hv.1 rfl om om) <| vl (ldV hK Ty.o9 rfl hcl) <| vl (mI rfl) <| vl (six underlying9 rfl rfl om) <| vl (lt rfl rfl) <| vl (mB rfl) <| ?_
    refine splP (t := 36) rfl (fun h3 => ?_) fun h3 => ?_
    ·have h3' : (ws[k][i].toNat : Int) < 48 := h3
     have hbad := numA_bad (a := a) hi' (.inl h3')
     refine gn rfl <| gn rfl <| gn rfl <| gn rfl <| gn rfl <| gn rfl <| gn rfl <| vl (pk rfl) <| nl <| thn <| ?_
     refine cdt rfl ?_
     refine sq <| rg <| ?_
     refine vl (aI rfl) <| nl <| thn <| rt <| thr <| bkr <| thr <| thr <| bkr <| thr <| p1r (a := .int _ _) rfl <| ?_
     exact ⟨congrArg (Value.int .i64) (hbad.symm.trans he), hK⟩
    ·have h3' : ¬ (ws[k][i].toNat : Int) < 48 := h3
     refine gy rfl <| vl mv <| gy rfl <| vl (mI rfl) <| gy rfl <| vl (ixm1 (m := k) underlying47 Ty.s9 rfl hv.1 rfl om om) <| gy rfl <| vl (ldV hK Ty.o9 rfl hcl) <| gy rfl <| vl (mI rfl) <| gy rfl <| vl (six underlying9 rfl rfl om) <| gy rfl <| vl (gt rfl rfl) <| vl (pk rfl) <| nl <| thn <| ?_
     refine cdP rfl (fun h4 => ?_) fun h4 => ?_
     ·have h4' : (ws[k][i].toNat : Int) > 57 := h4
      have hbad := numA_bad (a := a) hi' (.inr h4')
      refine sq <| rg <| ?_
      refine vl (aI rfl) <| nl <| thn <| rt <| thr <| bkr <| thr <| thr <| bkr <| thr <| p1r (a := .int _ _) rfl <| ?_
      exact ⟨congrArg (Value.int .i64) (hbad.symm.trans he), hK⟩
     ·have h4' : ¬ (ws[k][i].toNat : Int) > 57 := h4
      have hok := numA_ok (a := a) hi' (by omega)
      refine sk <| thn <| rg <| ?_
      refine vl (mI rfl) <| vl (ml rfl rfl) <| vl mv <| vl (mI rfl) <| vl (ixm1 (m := k) underlying47 Ty.s9 rfl hv.1 rfl om om) <| vl (ldV hK Ty.o9 rfl hcl) <| vl (mI rfl) <| vl (six underlying9 rfl rfl om) <| vl (sb8 rfl rfl om om) <| vl (cv underlying5 underlying3 rfl om om) <| vl (ad rfl rfl) <| vl (aI rfl) <| nl <| bkn <| thn <| ?_
      refine rg <| vl (mI rfl) <| vl (ad rfl rfl) <| vl (aI rfl) <| nl <| thn <| ?_
      exact ⟨(i + 1, 10 * a + ((ws[k][i].toNat : Int) - 48)), ⟨rfl, rfl, rfl, rfl, trivial⟩, ⟨hi', hok.symm.trans he, ⟨by simp only; omega, by simp only; omega, by simp only; omega, by simp only; omega⟩, hK⟩, by simp only; omega⟩
   ·have hi' : i = ws[k].length := by simp only at hc; omega
    subst hi'
    rw [List.drop_length] at he
    refine ex <| the <| the <| bkh <| thn <| sq <| rg <| ?_
    refine vl (mI rfl) <| vl (aI rfl) <| nl <| thn <| rt <| p1r (a := .int _ _) rfl <| ?_
    exact ⟨congrArg (Value.int .i64) he, hK⟩
theorem readNumber_c (hK : K e w G L) (hl : l.length ≤ 1000000) : Ret prog 82 #[Sv l] w (fun r w' => r = .int .i64 (numW l) ∧ ∃ G', VLe G G' ∧ K e w' G' L) := by
 refine enter1 (args := [Sv l]) func82 rfl rfl rfl rfl ?_
 refine sq <| rg <| ?_
 refine vl (aI rfl) <| nl <| thn <| sq <| sq <| rg <| vl mv <| vl (sln underlying9 rfl) <| ?_
 refine cl call72 rfl (inRange_c (C := fun w => K _ w _ _) hK) ?_
 rintro _ w ⟨rfl, hK⟩
 refine vl (ntB rfl) <| nl <| thn <| ?_
 refine cdB rfl (fun h2 => ?_) fun h2 => ?_
 ·have h2' : ¬ (1 ≤ l.length ∧ l.length ≤ 2) := by
   have := of_decide_eq_false (Eq.mp (Bool.not_eq_true' _) h2); omega
  refine sq <| rg <| ?_
  refine vl (aI rfl) <| nl <| thn <| rt <| thr <| p1r (a := .int _ _) rfl <| ?_
  exact ⟨by unfold numW; rw [if_neg h2'], _, VLe.refl _, hK⟩
 ·have h2' : 1 ≤ l.length ∧ l.length ≤ 2 := by
   have := of_decide_eq_true (Eq.mp (Bool.not_eq_false' _) h2); omega
  have hnw : numW l = numA 0 l := by unfold numW; rw [if_pos h2']
  rw [hnw]
  refine sk <| thn <| sq <| rg <| ?_
  refine vl (mI rfl) <| vl (aI rfl) <| nl <| thn <| sq <| sq <| rg <| vl mv <| ?_
  refine s2b hK underlying9 underlying22 underlying5 rfl hl fun G1 vb w hG1 hb hK => ?_
  have hbl : SlLen vb l.length := by have := hb.1.len; rwa [List.length_map] at this
  refine vl (ln underlying22 rfl (by assumption)) <| vl (mI rfl) <| nl <| thn <| bk <| ?_
  refine lp (σ := Nat × Int) (fun s => [(0, Sv l), (3, .int .i64 s.2), (12, vb), (13, .int .i64 (l.length : Int)), (14, .int .i64 (s.1 : Int))]) (fun s w => s.1 ≤ l.length ∧ numA s.2 (l.drop s.1) = numA 0 l ∧ (0 ≤ s.2 ∧ (s.1 = 0 → s.2 = 0) ∧ (s.1 = 1 → s.2 ≤ 9) ∧ (s.1 = 2 → s.2 ≤ 99)) ∧ K e w G1 L) (fun s => l.length - s.1) (0, 0) ⟨rfl, rfl, rfl, rfl, rfl, trivial⟩ ⟨Nat.zero_le _, rfl, ⟨Int.le_refl _, by simp, by simp, by simp⟩, hK⟩ ?_
  clear hK
  rintro ⟨i, a⟩ g w ⟨hi, he, ⟨ha0, ha1, ha2, ha3⟩, hK⟩
  simp only at hi he ha0 ha1 ha2 ha3 hK
  refine sq <| rg <| ?_
  refine vl (lt rfl rfl) <| nl <| thn <| sq <| ?_
  refine cdP rfl (fun hc => ?_) fun hc => ?_
  ·have hi' : i < l.length := by simp only at hc; omega
   have him : i < (l.map fun c => (c.toNat : Int)).length := by rw [List.length_map]; exact hi'
   have hcb : cellV G1 (elA vb i) = some (.int .u8 (l[i].toNat : Int)) := by have := (hb.atB him).1; simpa using this
   have hp : a ≤ 99 := by omega
   have hbt := l[i].toNat_lt
   refine sk <| thn <| sq <| bk <| sq <| rg <| ?_
   refine vl (ixm1 (m := i) underlying22 Ty.s5 rfl hb.1 rfl om om) <| vl (ldV hK Ty.o5 rfl hcb) <| vl (aI rfl) <| nl <| thn <| sq <| sq <| rg <| vl (mI rfl) <| vl (lt rfl rfl) <| vl (mB rfl) <| ?_
   refine splP (t := 20) rfl (fun h3 => ?_) fun h3 => ?_
   ·have h3' : (l[i].toNat : Int) < 48 := h3
    have hbad := numA_bad (a := a) hi' (.inl h3')
    refine gn rfl <| gn rfl <| vl (pk rfl) <| nl <| thn <| ?_
    refine cdt rfl ?_
    refine sq <| rg <| ?_
    refine vl (aI rfl) <| nl <| thn <| rt <| thr <| bkr <| thr <| thr <| bkr <| thr <| p1r (a := .int _ _) rfl <| ?_
    exact ⟨congrArg (Value.int .i64) (hbad.symm.trans he), _, hG1, hK⟩
   ·have h3' : ¬ (l[i].toNat : Int) < 48 := h3
    refine gy rfl <| vl (mI rfl) <| gy rfl <| vl (gt rfl rfl) <| vl (pk rfl) <| nl <| thn <| ?_
    refine cdP rfl (fun h4 => ?_) fun h4 => ?_
    ·have h4' : (l[i].toNat : Int) > 57 := h4
     have hbad := numA_bad (a := a) hi' (.inr h4')
     refine sq <| rg <| ?_
     refine vl (aI rfl) <| nl <| thn <| rt <| thr <| bkr <| thr <| thr <| bkr <| thr <| p1r (a := .int _ _) rfl <| ?_
     exact ⟨congrArg (Value.int .i64) (hbad.symm.trans he), _, hG1, hK⟩
    ·have h4' : ¬ (l[i].toNat : Int) > 57 := h4
     have hok := numA_ok (a := a) hi' (by omega)
     refine sk <| thn <| rg <| ?_
     refine vl (mI rfl) <| vl (ml rfl rfl) <| vl (mI rfl) <| vl (sb8 rfl rfl om om) <| vl (cv underlying5 underlying3 rfl om om) <| vl (ad rfl rfl) <| vl (aI rfl) <| nl <| bkn <| thn <| rg <| vl (ad rfl rfl) <| vl (mI rfl) <| nl <| thn <| ?_
     exact ⟨(i + 1, 10 * a + ((l[i].toNat : Int) - 48)), ⟨rfl, congrArg (Value.int .i64) (by omega), rfl, rfl, rfl, trivial⟩, ⟨hi', hok.symm.trans he, ⟨by simp only; omega, by simp only; omega, by simp only; omega, by simp only; omega⟩, hK⟩, by simp only; omega⟩
  ·have hi' : i = l.length := by simp only at hc; omega
   subst hi'
   rw [List.drop_length] at he
   refine ex <| the <| the <| bkh <| thn <| sq <| rg <| ?_
   refine vl (mI rfl) <| vl (aI rfl) <| nl <| thn <| rt <| p1r (a := .int _ _) rfl <| ?_
   exact ⟨congrArg (Value.int .i64) he, _, hG1, hK⟩
theorem numberAt_c (hK : K e w G L) (hv : StrS G v ws) (hl : ∀ x ∈ ws, x.length ≤ 1000000) : Ret prog 52 #[v, .int .i64 (k : Int)] w (fun r w' => r = .int .i64 (numL ws k) ∧ ∃ G', VLe G G' ∧ K e w' G' L) := by
 have hle := hv.1.le
 refine enter1 (args := [v, .int .i64 (k : Int)]) func52 rfl rfl rfl rfl ?_
 refine sq <| rg <| ?_
 refine vl (aI rfl) <| nl <| thn <| sq <| sq <| rg <| vl (mI rfl) <| vl mv <| vl (ln underlying47 rfl hv.len) <| vl (ge rfl rfl) <| nl <| thn <| ?_
 refine cdP rfl (fun h1 => ?_) fun h1 => ?_
 ·refine sq <| rg <| ?_
  refine vl (aI rfl) <| nl <| thn <| rt <| thr <| p1r (a := .int _ _) rfl <| ?_
  exact ⟨by rw [numL_no (by omega)], _, VLe.refl _, hK⟩
 ·have hk : k < ws.length := by omega
  have hcl := StrS.cell hv hk
  rw [numL_yes hk]
  refine sk <| thn <| sq <| rg <| ?_
  refine vl mv <| vl (mI rfl) <| vl (ixm1 (m := k) underlying47 Ty.s9 rfl hv.1 rfl om om) <| vl (ldV hK Ty.o9 rfl hcl) <| ?_
  refine cl call82 rfl (readNumber_c hK (hl _ (List.getElem_mem hk))) ?_
  rintro _ w ⟨rfl, G1, hG1, hK⟩
  refine vl (aI rfl) <| nl <| thn <| rt <| p1r (a := .int _ _) rfl <| ?_
  exact ⟨rfl, G1, hG1, hK⟩
theorem l61Kind_c (hK : K e w G L) : Ret prog 37 #[Sv l] w (fun r w' => r = .int .i64 (kdL l) ∧ ∃ G', VLe G G' ∧ K e w' G' L) := by
 refine enter1 (args := [Sv l]) func37 rfl rfl rfl rfl ?_
 refine sq <| rg <| ?_
 refine vl (aI rfl) <| nl <| thn <| sq <| rg <| ?_
 refine bsN [.const _, .const _, .const _, .const _, .const _, .const _, .const _, .const _, .const _, .const _, .const _, .const _, .const _, .const _, .const _] hK underlying47 Ty.i9 rfl rfl rfl rfl rfl rfl rfl rfl ?_
 intro b5 w hK
 refine vl asg <| nl <| thn <| sq <| sq <| rg <| vl (aI rfl) <| nl <| thn <| bk <| ?_
 have hK2 : K e w G ([(b5, row (([] :: kdN).flatMap sc) 9)] ++ L) := hK
 clear hK
 obtain ⟨G1, hG1, hv, hK⟩ := K.pubE (c := sc) (xs := [] :: kdN) (v := .slice (some ⟨b5, 0, none⟩) 15 15) (fun _ => rfl) hK2 (OS.lit (m := 15) rfl (by decide))
 clear hK2
 refine lp (σ := Nat) (fun i => [(0, Sv l), (3, .slice (some ⟨b5, 0, none⟩) 15 15), (4, .int .i64 (i : Int))]) (fun i w => (1 ≤ i ∧ i ≤ 15) ∧ kdF (([] :: kdN).drop i) (i : Int) l = kdL l ∧ K e w G1 L) (fun i => 15 - i) 1 ⟨rfl, rfl, rfl, trivial⟩ ⟨by omega, rfl, hK⟩ ?_
 clear hK
 rintro i g w ⟨hi, he, hK⟩
 have hln : ([] :: kdN : List (List UInt8)).length = 15 := rfl
 refine sq <| sq <| rg <| ?_
 refine vl (mI rfl) <| vl mv <| vl (ln underlying47 rfl hv.len) <| vl (lt rfl rfl) <| nl <| thn <| ?_
 refine cdP rfl (fun hc => ?_) fun hc => ?_
 ·have hi' : i < ([] :: kdN : List (List UInt8)).length := by omega
  have hcl := StrS.cell hv hi'
  refine sk <| thn <| sq <| bk <| sq <| rg <| ?_
  refine vl mv <| vl (mI rfl) <| vl (ixm1 (m := i) underlying47 Ty.s9 rfl hv.1 rfl om om) <| vl (ldV hK Ty.o9 rfl hcl) <| vl mv <| vl (seqE rfl rfl) <| nl <| thn <| ?_
  refine cdP rfl (fun hx => ?_) fun hx => ?_
  ·refine sq <| rg <| ?_
   refine vl (mI rfl) <| vl (aI rfl) <| nl <| thn <| rt <| bkr <| thr <| thr <| bkr <| thr <| p1r (a := .int _ _) rfl <| ?_
   exact ⟨congrArg (Value.int .i64) ((kdF_yes hi' hx).symm.trans he), _, hG1, hK⟩
  ·refine sk <| bkn <| thn <| rg <| ?_
   refine vl (mI rfl) <| vl (ad rfl rfl) <| vl (aI rfl) <| nl <| thn <| ?_
   exact ⟨i + 1, ⟨rfl, rfl, rfl, trivial⟩, ⟨by omega, (kdF_no hi' hx).symm.trans he, hK⟩, by omega⟩
 ·obtain rfl : i = 15 := by omega
  refine ex <| the <| the <| bkh <| thn <| sq <| rg <| ?_
  refine vl (aI rfl) <| nl <| thn <| rt <| p1r (a := .int _ _) rfl <| ?_
  exact ⟨congrArg (Value.int .i64) he, _, hG1, hK⟩
end
open Go Go.Ro Tryz
section
variable {e w : World} {G : View} {L A : Own} {v u cva : Value} {xs code : List Int} {rs qs : List Rn} {W W' : Wv} {wd wd' : Wd} {k : Int} {l : List UInt8} {ws : List (List UInt8)}
theorem l6Num_c {n : Int} (h0 : -1000000 ≤ n) (h1 : n ≤ 1000000) (hK : K e w G L) : Ret prog 43 #[.int .i64 n] w (fun r w' => r = Sv (num n) ∧ K e w' G L) := l6Dec_c h0 h1 hK
theorem rgT_take {rs : List Rn} {i : Nat} (h : i < rs.length) : rgT (rgl (rs.take (i + 1))) = rgT (rgl (rs.take i)) ++ ndT (nd rs[i]) := by
 unfold rgT; rw [rgl_take_succ h, List.flatMap_append]; simp
theorem aft2 {x : Rn} (h : NdOk (nd x)) : ∃ a b, x.2.2.2 = [a, b] ∧ Pt a ∧ Pt b := by
 obtain ⟨_, _, h3, h4⟩ := h
 have h3' : x.2.2.2.length = 2 := h3
 match hx : x.2.2.2, h3' with
 | [a, b], _ => exact ⟨a, b, rfl, h4 a (by show a ∈ x.2.2.2; rw [hx]; simp), h4 b (by show b ∈ x.2.2.2; rw [hx]; simp)⟩
theorem l61Ring_c (hK : K e w G L) (hW : WdS G lc W wd rs) (hok : RgOk wd.ring) :
  Ret prog 41 #[.agg (wc W).toArray] w (fun r w' => r = Sv (rgT wd.ring) ∧ K e w' G L) := by
 have hR := hW.ring
 have hs := hR.sl
 rw [← hW.rg] at hok ⊢
 have hle : rs.length ≤ 10 := by rw [← rg_len]; exact hok.1
 refine enter1 (args := [.agg (wc W).toArray]) func41 rfl rfl rfl rfl ?_
 refine sq <| rg <| ?_
 refine bx hK rfl rfl ?_
 intro b1 w hK
 refine vl asg <| nl <| thn <| sq <| rg <| vl asg <| nl <| thn <| sq <| sq <| rg <| vl (aI rfl) <| nl <| thn <| bk <| ?_
 refine lp (σ := Nat) (fun i => [(1, .pointer (some ⟨b1, 0, none⟩)), (3, Sv (rgT (rgl (rs.take i)))), (4, .int .i64 (i : Int))]) (fun i w => i ≤ rs.length ∧ (rgT (rgl (rs.take i))).length ≤ 36 * i ∧ K e w G ((b1, row (wc W) 39) :: L)) (fun i => rs.length - i) 0 ⟨rfl, rfl, rfl, trivial⟩ ⟨Nat.zero_le _, Nat.le_refl _, hK⟩ ?_
 clear hK
 rintro i g w ⟨hi, hl, hK⟩
 refine sq <| sq <| rg <| ?_
 refine vl (mI rfl) <| vl (fa underlying39 rfl Ty.z32 rfl) <| vl (ldO hK Ty.o32 0 rfl rfl rfl) <| vl (ln underlying32 rfl hs.len) <| vl (lt rfl rfl) <| nl <| thn <| ?_
 refine cdP rfl (fun hc => ?_) fun hc => ?_
 ·have hi' : i < rs.length := by omega
  have hnd := rgOk_at hok hi'
  obtain ⟨a, b, hab, ha, hb⟩ := aft2 hnd
  have hid : Pt rs[i].1 := hnd.1
  have hbf : rs[i].2.1 = -1 ∨ Pt rs[i].2.1 := hnd.2.1
  have hv := hR.at hi'
  rw [hab] at hv
  have n1 := num_len (n := rs[i].1) (by omega) (by omega)
  have n2 := num_len (n := rs[i].2.1) (by omega) (by omega)
  have n3 := num_len (n := a) (by omega) (by omega)
  have n4 := num_len (n := b) (by omega) (by omega)
  have hone : (rc rs[i]).all Ro.one = true := allc rfl (allc rfl (allc hv.1.one rfl))
  have hl2 : ([a, b] : List Int).length = 2 := rfl
  have c0 : cellV G (elA rs[i].2.2.1 0) = some (.int .i64 a) := hv.at (i := 0) (by omega)
  have c1 : cellV G (elA rs[i].2.2.1 1) = some (.int .i64 b) := hv.at (i := 1) (by omega)
  refine sk <| thn <| sq <| bk <| sq <| rg <| ?_
  refine vl (fa underlying39 rfl Ty.z32 rfl) <| vl (ldO hK Ty.o32 0 rfl rfl rfl) <| vl (mI rfl) <| vl (ixm (m := i) underlying32 Ty.s84 rfl hs.1 rfl om om) <| vl (lsF hK Ty.a84 Ty.s84 rfl hs om) <| ?_
  refine al hK Ty.i84 rfl ?_
  intro b5 w hK
  refine soS hK Ty.i84 0 rfl rfl rfl rfl hone rfl ?_
  intro w hK
  refine nl <| thn <| ?_
  replace hK : K e w G ((b5, row (rc rs[i]) 84) :: (b1, row (wc W) 39) :: L) := hK
  refine rgq (fun w => K _ w _ _) Ty.mixed kr (hK.drawn _) ?_
  refine qv (fun w hK => mv) <| qv (fun w hK => (fa underlying84 rfl Ty.z3 rfl)) <| qldO Ty.o3 0 rfl rfl rfl <| ?_
  refine qcl call43 rfl (fun w hK => l6Num_c om om hK) ?_
  refine qv (fun w hK => (sad rfl rfl (by first | omega | (simp; omega)))) <| qv (fun w hK => (sad rfl rfl (by first | omega | (simp; omega)))) <| qv (fun w hK => (fa underlying84 rfl Ty.z3 rfl)) <| qldO Ty.o3 0 rfl rfl rfl <| ?_
  refine qcl call43 rfl (fun w hK => l6Num_c om om hK) ?_
  refine qv (fun w hK => (sad rfl rfl (by first | omega | (simp; omega)))) <| qv (fun w hK => (sad rfl rfl (by first | omega | (simp; omega)))) <| qv (fun w hK => (fa underlying84 rfl Ty.z35 rfl)) <| qldO Ty.o35 0 rfl rfl rfl <| qv (fun w hK => (ixn1 underlying35 Ty.s3 rfl hv.1 rfl om)) <| qldV Ty.o3 rfl c0 <| ?_
  refine qcl call43 rfl (fun w hK => l6Num_c om om hK) ?_
  refine qv (fun w hK => (sad rfl rfl (by first | omega | (simp; omega)))) <| qv (fun w hK => (sad rfl rfl (by first | omega | (simp; omega)))) <| qv (fun w hK => (fa underlying84 rfl Ty.z35 rfl)) <| qldO Ty.o35 0 rfl rfl rfl <| qv (fun w hK => (ixn1 underlying35 Ty.s3 rfl hv.1 rfl om)) <| qldV Ty.o3 rfl c1 <| ?_
  refine qcl call43 rfl (fun w hK => l6Num_c om om hK) ?_
  refine qv (fun w hK => (sad rfl rfl (by first | omega | (simp; omega)))) <| qv (fun w hK => (sad rfl rfl (by first | omega | (simp; omega)))) <| qv (fun w hK => asg) <| qn <| ?_
  intro w hK
  refine bkn <| thn <| rg <| vl (mI rfl) <| vl (ad rfl rfl) <| vl (aI rfl) <| nl <| thn <| ?_
  refine ⟨i + 1, ⟨rfl, ?_, rfl, trivial⟩, ⟨hi', ?_, hK.drop1⟩, by omega⟩
  ·rw [rgT_take hi']
   show Sv _ = Sv _
   congr 1
   have e1 : a0 (nd rs[i]) = a := by show (rs[i].2.2.2).getD 0 0 = a; rw [hab]; rfl
   have e2 : a1 (nd rs[i]) = b := by show (rs[i].2.2.2).getD 1 0 = b; rw [hab]; rfl
   unfold ndT
   rw [e1, e2]
   simp only [List.append_assoc]; rfl
  ·rw [rgT_take hi', List.length_append]
   have := ndT_len hnd
   omega
 ·have hi' : i = rs.length := by omega
  subst hi'
  refine ex <| the <| the <| bkh <| thn <| sq <| rg <| ?_
  refine vl mv <| vl asg <| nl <| thn <| rt <| p1r (a := _) rfl <| ?_
  exact ⟨congrArg (fun x => Sv (rgT (rgl x))) List.take_length, hK.drop1⟩
theorem lsT_take {ls : List Ls} {i : Nat} (h : i < ls.length) : lsT (ls.take (i + 1)) = lsT (ls.take i) ++ l1T ls[i] := by
 unfold lsT; rw [List.take_succ_eq_append_getElem h, List.flatMap_append]; simp
theorem l61Leases_c (hK : K e w G L) (hW : WdS G lc W wd rs) (hok : LsOk wd.leases) :
  Ret prog 42 #[.agg (wc W).toArray] w (fun r w' => r = Sv (lsT wd.leases) ∧ K e w' G L) := by
 have hs := hW.leases
 generalize wd.leases = ls at *
 have hle : ls.length ≤ 12 := hok.1.2
 refine enter1 (args := [.agg (wc W).toArray]) func42 rfl rfl rfl rfl ?_
 refine sq <| rg <| ?_
 refine bx hK rfl rfl ?_
 intro b1 w hK
 refine vl asg <| nl <| thn <| sq <| rg <| vl asg <| nl <| thn <| sq <| sq <| rg <| vl (aI rfl) <| nl <| thn <| bk <| ?_
 refine lp (σ := Nat) (fun i => [(1, .pointer (some ⟨b1, 0, none⟩)), (3, Sv (lsT (ls.take i))), (4, .int .i64 (i : Int))]) (fun i w => i ≤ ls.length ∧ (lsT (ls.take i)).length ≤ 27 * i ∧ K e w G ((b1, row (wc W) 39) :: L)) (fun i => ls.length - i) 0 ⟨rfl, rfl, rfl, trivial⟩ ⟨Nat.zero_le _, Nat.le_refl _, hK⟩ ?_
 clear hK
 rintro i g w ⟨hi, hl, hK⟩
 refine sq <| sq <| rg <| ?_
 refine vl (mI rfl) <| vl (fa underlying39 rfl Ty.z33 rfl) <| vl (ldO hK Ty.o33 0 rfl rfl rfl) <| vl (ln underlying33 rfl hs.len) <| vl (lt rfl rfl) <| nl <| thn <| ?_
 refine cdP rfl (fun hc => ?_) fun hc => ?_
 ·have hi' : i < ls.length := by omega
  have h1 := hok.at hi'
  have n1 := num_len (n := ls[i].1) (by omega) (by omega)
  have n2 := num_len (n := ls[i].2.1) (by omega) (by omega)
  have n3 := num_len (n := ls[i].2.2) (by omega) (by omega)
  refine sk <| thn <| sq <| bk <| ?_
  refine rgq (fun w => K _ w _ _) Ty.mixed kr (hK.drawn _) ?_
  refine qv (fun w hK => mv) <| qv (fun w hK => (fa underlying39 rfl Ty.z33 rfl)) <| qldO Ty.o33 0 rfl rfl rfl <| qv (fun w hK => (mI rfl)) <| qv (fun w hK => (ixm (m := i) underlying33 Ty.s86 rfl hs.1 rfl om om)) <| qv (fun w hK => (fe underlying86 rfl Ty.z3 rfl hs.1 om)) <| qldV Ty.o3 rfl (hs.cell om 0 rfl) <| ?_
  refine qcl call43 rfl (fun w hK => l6Num_c om om hK) ?_
  refine qv (fun w hK => (sad rfl rfl (by first | omega | (simp; omega)))) <| qv (fun w hK => (sad rfl rfl (by first | omega | (simp; omega)))) <| qv (fun w hK => (fa underlying39 rfl Ty.z33 rfl)) <| qldO Ty.o33 0 rfl rfl rfl <| qv (fun w hK => (mI rfl)) <| qv (fun w hK => (ixm (m := i) underlying33 Ty.s86 rfl hs.1 rfl om om)) <| qv (fun w hK => (fe underlying86 rfl Ty.z3 rfl hs.1 om)) <| qldV Ty.o3 rfl (hs.cell om 1 rfl) <| ?_
  refine qcl call43 rfl (fun w hK => l6Num_c om om hK) ?_
  refine qv (fun w hK => (sad rfl rfl (by first | omega | (simp; omega)))) <| qv (fun w hK => (sad rfl rfl (by first | omega | (simp; omega)))) <| qv (fun w hK => (fa underlying39 rfl Ty.z33 rfl)) <| qldO Ty.o33 0 rfl rfl rfl <| qv (fun w hK => (mI rfl)) <| qv (fun w hK => (ixm (m := i) underlying33 Ty.s86 rfl hs.1 rfl om om)) <| qv (fun w hK => (fe underlying86 rfl Ty.z3 rfl hs.1 om)) <| qldV Ty.o3 rfl (hs.cell om 2 rfl) <| ?_
  refine qcl call43 rfl (fun w hK => l6Num_c om om hK) ?_
  refine qv (fun w hK => (sad rfl rfl (by first | omega | (simp; omega)))) <| qv (fun w hK => (sad rfl rfl (by first | omega | (simp; omega)))) <| qv (fun w hK => asg) <| qn <| ?_
  intro w hK
  refine bkn <| thn <| rg <| vl (mI rfl) <| vl (ad rfl rfl) <| vl (aI rfl) <| nl <| thn <| ?_
  refine ⟨i + 1, ⟨rfl, ?_, rfl, trivial⟩, ⟨hi', ?_, hK⟩, by omega⟩
  ·rw [lsT_take hi']
   show Sv _ = Sv _
   congr 1
   unfold l1T
   simp only [List.append_assoc]
  ·rw [lsT_take hi', List.length_append]
   have := l1T_len h1
   omega
 ·have hi' : i = ls.length := by omega
  subst hi'
  refine ex <| the <| the <| bkh <| thn <| sq <| rg <| ?_
  refine vl mv <| vl asg <| nl <| thn <| rt <| p1r (a := _) rfl <| ?_
  exact ⟨congrArg (fun x => Sv (lsT x)) List.take_length, hK.drop1⟩
theorem itT_take {xs : List It} {i : Nat} (h : i < xs.length) : itT (xs.take (i + 1)) = itT (xs.take i) ++ it1 xs[i] := by
 unfold itT; rw [List.take_succ_eq_append_getElem h, List.flatMap_append, List.append_assoc]; simp
def scP (n : Int) (ks : List Int) : List UInt8 := tScan ++ [32] ++ num n ++ ks.flatMap sc1
theorem scP_take {n : Int} {xs : List Int} {i : Nat} (h : i < xs.length) : scP n (xs.take (i + 1)) = scP n (xs.take i) ++ sc1 xs[i] := by
 unfold scP; rw [List.take_succ_eq_append_getElem h, List.flatMap_append, ← List.append_assoc]; simp
set_option maxHeartbeats 1000000 in
theorem l61State_c (hK : K e w G L) (hW : WdS G lc W wd rs) (hok : WdOk wd) :
  Ret prog 24 #[.agg (wc W).toArray] w (fun r w' => r = Sv (stT wd) ∧ K e w' G L) := by
 have hi0 := hW.items
 have ht0 := hW.told
 have hnx : W.next = wd.scan.1 := hW.next
 have hio := hok.2.2.2.1
 obtain ⟨hn, hsa, _⟩ := hok.2.2.2.2.1
 have hil := it_len hio
 have hsl := hsa.len
 have hst : stT wd = itT wd.items ++ [10] ++ (scP wd.scan.1 wd.scan.2 ++ [10]) := rfl
 rw [hst, ← hnx]
 rw [← hnx] at hn
 generalize wd.items = zs at *
 generalize wd.scan.2 = ks at *
 have n0 := num_len (n := W.next) (by omega) (by omega)
 refine enter1 (args := [.agg (wc W).toArray]) func24 rfl rfl rfl rfl ?_
 refine sq <| rg <| ?_
 refine bx hK rfl rfl ?_
 intro b1 w hK
 refine vl asg <| nl <| thn <| sq <| rg <| vl asg <| nl <| thn <| sq <| sq <| rg <| vl (aI rfl) <| nl <| thn <| bk <| ?_
 refine lp (σ := Nat) (fun i => [(1, .pointer (some ⟨b1, 0, none⟩)), (3, Sv (itT (zs.take i))), (4, .int .i64 (i : Int))]) (fun i w => i ≤ zs.length ∧ (itT (zs.take i)).length ≤ 5 + 18 * i ∧ K e w G ((b1, row (wc W) 39) :: L)) (fun i => zs.length - i) 0 ⟨rfl, rfl, rfl, trivial⟩ ⟨Nat.zero_le _, Nat.le_refl _, hK⟩ ?_
 clear hK
 rintro i g w ⟨hi, hl, hK⟩
 refine sq <| sq <| rg <| ?_
 refine vl (mI rfl) <| vl (fa underlying39 rfl Ty.z34 rfl) <| vl (ldO hK Ty.o34 0 rfl rfl rfl) <| vl (ln underlying34 rfl hi0.len) <| vl (lt rfl rfl) <| nl <| thn <| ?_
 refine cdP rfl (fun hc => ?_) fun hc => ?_
 ·have hi' : i < zs.length := by omega
  have hm : zs[i] ∈ zs := List.getElem_mem _
  have h1 := hio.1 _ hm
  have h2 : Pt zs[i].1 := hio.2.1 _ (List.mem_map_of_mem (f := (·.1)) hm)
  have n1 := num_len (n := zs[i].1) (by omega) (by omega)
  have n2 := num_len (n := zs[i].2) (by omega) (by omega)
  refine sk <| thn <| sq <| bk <| ?_
  refine rgq (fun w => K _ w _ _) Ty.mixed kr (hK.drawn _) ?_
  refine qv (fun w hK => mv) <| qv (fun w hK => (sad rfl rfl (by first | omega | (simp; omega)))) <| qv (fun w hK => (fa underlying39 rfl Ty.z34 rfl)) <| qldO Ty.o34 0 rfl rfl rfl <| qv (fun w hK => (mI rfl)) <| qv (fun w hK => (ixm (m := i) underlying34 Ty.s51 rfl hi0.1 rfl om om)) <| qv (fun w hK => (fe underlying51 rfl Ty.z3 rfl hi0.1 om)) <| qldV Ty.o3 rfl (hi0.cell om 0 rfl) <| ?_
  refine qcl call43 rfl (fun w hK => l6Num_c om om hK) ?_
  refine qv (fun w hK => (sad rfl rfl (by first | omega | (simp; omega)))) <| qv (fun w hK => (sad rfl rfl (by first | omega | (simp; omega)))) <| qv (fun w hK => (fa underlying39 rfl Ty.z34 rfl)) <| qldO Ty.o34 0 rfl rfl rfl <| qv (fun w hK => (mI rfl)) <| qv (fun w hK => (ixm (m := i) underlying34 Ty.s51 rfl hi0.1 rfl om om)) <| qv (fun w hK => (fe underlying51 rfl Ty.z3 rfl hi0.1 om)) <| qldV Ty.o3 rfl (hi0.cell om 1 rfl) <| ?_
  refine qcl call43 rfl (fun w hK => l6Num_c om om hK) ?_
  refine qv (fun w hK => (sad rfl rfl (by first | omega | (simp; omega)))) <| qv (fun w hK => asg) <| qn <| ?_
  intro w hK
  refine bkn <| thn <| rg <| vl (mI rfl) <| vl (ad rfl rfl) <| vl (aI rfl) <| nl <| thn <| ?_
  refine ⟨i + 1, ⟨rfl, ?_, rfl, trivial⟩, ⟨hi', ?_, hK⟩, by omega⟩
  ·rw [itT_take hi']
   show Sv _ = Sv _
   congr 1
   unfold it1
   simp only [List.append_assoc]
  ·rw [itT_take hi', List.length_append]
   have := it1_len hio hm
   omega
 ·have hi' : i = zs.length := by omega
  subst hi'
  rw [List.take_length] at hl ⊢
  refine ex <| the <| the <| bkh <| thn <| sq <| rg <| ?_
  refine vl mv <| vl (sad rfl rfl (by first | omega | (simp; omega))) <| vl (fa underlying39 rfl Ty.z37 rfl) <| vl (fa underlying37 rfl Ty.z3 rfl) <| vl (ldO hK Ty.o3 0 rfl rfl rfl) <| ?_
  refine cl call43 rfl (l6Num_c om om hK) ?_
  rintro _ w ⟨rfl, hK⟩
  refine vl (sad rfl rfl (by first | omega | (simp; omega))) <| vl asg <| nl <| thn <| sq <| sq <| rg <| vl (aI rfl) <| nl <| thn <| bk <| ?_
  have e0 : itT zs ++ [10, 115, 99, 97, 110, 32] ++ num W.next = itT zs ++ [10] ++ scP W.next (ks.take 0) := by
   unfold scP tScan; simp
  refine lp (σ := Nat) (fun i => [(1, .pointer (some ⟨b1, 0, none⟩)), (3, Sv (itT zs ++ [10] ++ scP W.next (ks.take i))), (5, .int .i64 (i : Int))]) (fun i w => i ≤ ks.length ∧ (scP W.next (ks.take i)).length ≤ 13 + 9 * i ∧ K e w G ((b1, row (wc W) 39) :: L)) (fun i => ks.length - i) 0 ⟨rfl, congrArg Sv e0, rfl, trivial⟩ ⟨Nat.zero_le _, by simp [scP, tScan]; omega, hK⟩ ?_
  clear hK
  rintro j g w ⟨hj, hl2, hK⟩
  refine sq <| sq <| rg <| ?_
  refine vl (mI rfl) <| vl (fa underlying39 rfl Ty.z37 rfl) <| vl (fa underlying37 rfl Ty.z35 rfl) <| vl (ldO hK Ty.o35 0 rfl rfl rfl) <| vl (ln underlying35 rfl ht0.len) <| vl (lt rfl rfl) <| nl <| thn <| ?_
  refine cdP rfl (fun hc2 => ?_) fun hc2 => ?_
  ·have hj' : j < ks.length := by omega
   have hp := hsa.1 _ (List.getElem_mem hj')
   have n1 := num_len (n := ks[j]) (by omega) (by omega)
   refine sk <| thn <| sq <| bk <| rg <| ?_
   refine vl mv <| vl (sad rfl rfl (by first | omega | (simp; omega))) <| vl (fa underlying39 rfl Ty.z37 rfl) <| vl (fa underlying37 rfl Ty.z35 rfl) <| vl (ldO hK Ty.o35 0 rfl rfl rfl) <| vl (mI rfl) <| vl (ixm1 (m := j) underlying35 Ty.s3 rfl ht0.1 rfl om om) <| vl (ldV hK Ty.o3 rfl (ht0.at om)) <| ?_
   refine cl call43 rfl (l6Num_c om om hK) ?_
   rintro _ w ⟨rfl, hK⟩
   refine vl (sad rfl rfl (by first | omega | (simp; omega))) <| vl asg <| nl <| bkn <| thn <| rg <| vl (mI rfl) <| vl (ad rfl rfl) <| vl (aI rfl) <| nl <| thn <| ?_
   refine ⟨j + 1, ⟨rfl, ?_, rfl, trivial⟩, ⟨hj', ?_, hK⟩, by omega⟩
   ·rw [scP_take hj']
    show Sv _ = Sv _
    congr 1
    unfold sc1
    simp only [List.append_assoc]
   ·rw [scP_take hj', List.length_append]
    unfold sc1
    simp only [List.length_append, List.length_singleton]; omega
  ·have hj' : j = ks.length := by omega
   subst hj'
   rw [List.take_length] at hl2 ⊢
   refine ex <| the <| the <| bkh <| thn <| sq <| rg <| ?_
   refine vl mv <| vl (sad rfl rfl (by first | omega | (simp; omega))) <| vl asg <| nl <| thn <| rt <| p1r (a := _) rfl <| ?_
   exact ⟨show Sv (itT zs ++ [10] ++ scP W.next ks ++ [10]) = _ from congrArg Sv (List.append_assoc ..), hK.drop1⟩
end
end Go.Proofs.YtbiihblpgfgaoabGreatDoor
