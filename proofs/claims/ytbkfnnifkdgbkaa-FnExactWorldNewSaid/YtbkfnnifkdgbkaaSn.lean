/- Contracts of the functions on leases and scans: what is valid. Conditions: those that each row states. -/
import Derived.Test.YtbkfnnifkdgbkaaCf
import Derived.Test.YtbkfnnifkdgbkaaLs
namespace Go.Proofs.Ytbkfnnifkdgbkaa
open Go Go.Ro

def lc (x : Ls) : List Value := [.int .i64 x.1, .int .i64 x.2.1, .int .i64 x.2.2]
abbrev LeaS := SlR 3 (EF lc)
theorem LeaS.mono {G G' : View} {v : Value} {ls : List Ls} (h : LeaS G v ls) (hG : VLe G G') : LeaS G' v ls := EF.mono h hG

section
variable {e w : World} {G : View} {L : Own} {v u : Value} {xs ys ks : List Int} {ls : List Ls}

theorem l1Nodes_c (hK : K e w G L) (hv : IntS G v xs) : Ret Try.prog 38 #[v] w (fun r w' => r = .bool (dec (Asc xs)) ∧ K e w' G L) := by
 have hle := hv.le
 refine enter1 (args := [v]) Try.func38 rfl rfl rfl rfl ?_
 refine sq <| rg <| ?_
 refine vl (aB rfl) <| nl <| thn <| sq <| sq <| rg <| vl (aI rfl) <| nl <| thn <| bk <| ?_
 refine lp (σ := Nat) (fun i => [(0, v), (3, .int .i64 (i : Int))]) (fun i w => i ≤ xs.length ∧ Asc (xs.take i) ∧ K e w G L) (fun i => xs.length - i) 0 ⟨rfl, rfl, trivial⟩ ⟨Nat.zero_le _, by simpa using Asc.nil, hK⟩ ?_
 rintro i g w ⟨hi, ha, hK⟩
 refine sq <| sq <| rg <| ?_
 refine vl (mI rfl) <| vl mv <| vl (ln Try.underlying22 rfl hv.len) <| vl (lt rfl rfl) <| nl <| thn <| ?_
 refine cdP rfl (fun hc => ?_) (fun hc => ?_)
 ·have hi' : i < xs.length := by omega
  refine sk <| thn <| sq <| bk <| sq <| ?_
  refine rgq (fun w => K _ w _ _) Ty.mixed kr (hK.drawn _) ?_
  refine qv (fun w hK => mv) <| ?_; refine qv (fun w hK => (mI rfl)) <| ?_; refine qv (fun w hK => (ixn1 Try.underlying22 Ty.s3 rfl hv.1 rfl om)) <| ?_; refine qldV Ty.o3 rfl (hv.at om) <| ?_
  refine qcl Try.call41 rfl (fun w hK => l1Point_c (C := fun w => K _ w _ _) hK) ?_
  refine qv (fun w hK => (nt rfl)) <| ?_; refine qv (fun w hK => (mB rfl)) <| ?_
  refine qsplP (t := 16) rfl (fun h1 => ?_) (fun h1 => ?_)
  ·refine qgn rfl <| ?_; refine qgn rfl <| ?_; refine qgn rfl <| ?_; refine qgu rfl <| ?_; refine qgu rfl <| ?_; refine qgu rfl <| ?_; refine qgu rfl <| ?_; refine qgu rfl <| ?_; refine qgu rfl <| ?_; refine qgu rfl <| ?_; refine qgu rfl <| ?_; refine qgu rfl <| ?_; refine qgu rfl <| ?_; refine qgn rfl <| ?_; refine qv (fun w hK => (pk rfl)) <| ?_; refine qn <| ?_
   intro w hK
   refine thn <| ?_
   refine cdt rfl ?_
   refine sq <| rg <| ?_
   refine vl (aB rfl) <| nl <| thn <| rt <| bkr <| thr <| thr <| bkr <| thr <| p1r (a := .bool _) rfl <| ?_
   exact ⟨by rw [dec_f]; intro h; exact h1 (h.pt hi'), hK⟩
  ·have h1' : Pt xs[i] := Decidable.not_not.1 h1
   refine qgy rfl <| ?_; refine qv (fun w hK => (mI rfl)) <| ?_; refine qgy rfl <| ?_; refine qv (fun w hK => (gt rfl rfl)) <| ?_; refine qgy rfl <| ?_; refine qv (fun w hK => (mB rfl)) <| ?_
   refine qsplP (t := 19) rfl (fun h2 => ?_) (fun h2 => ?_)
   ·refine qgy rfl <| ?_; refine qv (fun w hK => mv) <| ?_; refine qgy rfl <| ?_; refine qv (fun w hK => (mI rfl)) <| ?_; refine qgy rfl <| ?_; refine qv (fun w hK => (sb rfl rfl)) <| ?_; refine qgy rfl <| ?_; refine qv (fun w hK => (ixm1 (m := i - 1) Try.underlying22 Ty.s3 rfl hv.1 rfl om om)) <| ?_; refine qgy rfl <| ?_; refine qldV Ty.o3 rfl (hv.at om) <| ?_; refine qgy rfl <| ?_; refine qv (fun w hK => mv) <| ?_; refine qgy rfl <| ?_; refine qv (fun w hK => (mI rfl)) <| ?_; refine qgy rfl <| ?_; refine qv (fun w hK => (ixn1 Try.underlying22 Ty.s3 rfl hv.1 rfl om)) <| ?_; refine qgy rfl <| ?_; refine qldV Ty.o3 rfl (hv.at om) <| ?_; refine qgy rfl <| ?_; refine qv (fun w hK => (ge rfl rfl)) <| ?_; refine qgy rfl <| ?_; refine qv (fun w hK => (pk rfl)) <| ?_; refine qv (fun w hK => (pk rfl)) <| ?_; refine qn <| ?_
    intro w hK
    refine thn <| ?_
    refine cdP rfl (fun h3 => ?_) (fun h3 => ?_)
    ·refine sq <| rg <| ?_
     refine vl (aB rfl) <| nl <| thn <| rt <| bkr <| thr <| thr <| bkr <| thr <| p1r (a := .bool _) rfl <| ?_
     exact ⟨by rw [dec_f]; intro h; have := h.lt hi' (by omega); omega, hK⟩
    ·refine sk <| bkn <| thn <| rg <| ?_
     refine vl (mI rfl) <| vl (ad rfl rfl) <| vl (aI rfl) <| nl <| thn <| ?_
     exact ⟨i + 1, ⟨rfl, rfl, trivial⟩, ⟨hi', ha.snoc hi' h1' (fun _ => by omega), hK⟩, by omega⟩
   ·refine qgn rfl <| ?_; refine qgn rfl <| ?_; refine qgn rfl <| ?_; refine qgn rfl <| ?_; refine qgn rfl <| ?_; refine qgn rfl <| ?_; refine qgn rfl <| ?_; refine qgn rfl <| ?_; refine qgn rfl <| ?_; refine qgn rfl <| ?_; refine qgy rfl <| ?_; refine qv (fun w hK => (pk rfl)) <| ?_; refine qv (fun w hK => (pk rfl)) <| ?_; refine qn <| ?_
    intro w hK
    refine thn <| ?_
    refine cdf rfl ?_
    refine sk <| bkn <| thn <| rg <| ?_
    refine vl (mI rfl) <| vl (ad rfl rfl) <| vl (aI rfl) <| nl <| thn <| ?_
    exact ⟨i + 1, ⟨rfl, rfl, trivial⟩, ⟨hi', ha.snoc hi' h1' (fun h => by omega), hK⟩, by omega⟩
 ·have hi' : i = xs.length := by omega
  subst hi'
  refine ex <| the <| the <| bkh <| thn <| sq <| rg <| ?_
  refine vl (aB rfl) <| nl <| thn <| rt <| p1r (a := .bool _) rfl <| ?_
  exact ⟨by rw [List.take_length] at ha; rw [dec_t ha], hK⟩

theorem ascendingPositions_c (hK : K e w G L) (hv : IntS G v xs) : Ret Try.prog 40 #[v] w (fun r w' => r = .bool (dec (Asc xs)) ∧ K e w' G L) := by
 have hle := hv.le
 refine enter1 (args := [v]) Try.func40 rfl rfl rfl rfl ?_
 refine sq <| rg <| ?_
 refine vl (aB rfl) <| nl <| thn <| sq <| sq <| rg <| vl mv <| vl (ln Try.underlying22 rfl hv.len) <| vl (mI rfl) <| nl <| thn <| bk <| ?_
 refine lp (σ := Nat) (fun i => [(0, v), (5, v), (6, .int .i64 (xs.length : Int)), (7, .int .i64 (i : Int))]) (fun i w => i ≤ xs.length ∧ Asc (xs.take i) ∧ K e w G L) (fun i => xs.length - i) 0 ⟨rfl, rfl, rfl, rfl, trivial⟩ ⟨Nat.zero_le _, by simpa using Asc.nil, hK⟩ ?_
 rintro i g w ⟨hi, ha, hK⟩
 refine sq <| rg <| ?_
 refine vl (lt rfl rfl) <| nl <| thn <| sq <| ?_
 refine cdP rfl (fun hc => ?_) (fun hc => ?_)
 ·have hi' : i < xs.length := by omega
  refine sk <| thn <| sq <| bk <| sq <| rg <| ?_
  refine vl (mI rfl) <| vl (ixn1 Try.underlying22 Ty.s3 rfl hv.1 rfl om) <| vl (ldV hK Ty.o3 rfl (hv.at om)) <| vl (aI rfl) <| vl (aI rfl) <| nl <| thn <| sq <| rg <| vl (mI rfl) <| ?_
  refine cl Try.call42 rfl (posok_c (C := fun w => K _ w _ _) hK) ?_
  rintro _ w ⟨rfl, hK⟩
  refine vl (nt rfl) <| vl (mB rfl) <| ?_
  refine splP (t := 15) rfl (fun h1 => ?_) (fun h1 => ?_)
  ·refine gn rfl <| gn rfl <| gn rfl <| gu rfl <| gu rfl <| gu rfl <| gu rfl <| gu rfl <| gu rfl <| gu rfl <| gn rfl <| vl (pk rfl) <| nl <| thn <| ?_
   refine cdt rfl ?_
   refine sq <| rg <| ?_
   refine vl (aB rfl) <| nl <| thn <| rt <| bkr <| thr <| thr <| bkr <| thr <| p1r (a := .bool _) rfl <| ?_
   exact ⟨by rw [dec_f]; intro h; exact h1 (h.pt hi'), hK⟩
  ·have h1' : Pt xs[i] := Decidable.not_not.1 h1
   refine gy rfl <| vl (mI rfl) <| gy rfl <| vl (gt rfl rfl) <| gy rfl <| vl (mB rfl) <| ?_
   refine splP (t := 18) rfl (fun h2 => ?_) (fun h2 => ?_)
   ·refine gy rfl <| vl mv <| gy rfl <| vl (mI rfl) <| gy rfl <| vl (sb rfl rfl) <| gy rfl <| vl (ixm1 (m := i - 1) Try.underlying22 Ty.s3 rfl hv.1 rfl om om) <| gy rfl <| vl (ldV hK Ty.o3 rfl (hv.at om)) <| gy rfl <| vl (mI rfl) <| gy rfl <| vl (ge rfl rfl) <| gy rfl <| vl (pk rfl) <| vl (pk rfl) <| nl <| thn <| ?_
    refine cdP rfl (fun h3 => ?_) (fun h3 => ?_)
    ·refine sq <| rg <| ?_
     refine vl (aB rfl) <| nl <| thn <| rt <| bkr <| thr <| thr <| bkr <| thr <| p1r (a := .bool _) rfl <| ?_
     exact ⟨by rw [dec_f]; intro h; have := h.lt hi' (by omega); omega, hK⟩
    ·refine sk <| bkn <| thn <| rg <| ?_
     refine vl (ad rfl rfl) <| vl (mI rfl) <| nl <| thn <| ?_
     exact ⟨i + 1, ⟨rfl, rfl, rfl, rfl, trivial⟩, ⟨hi', ha.snoc hi' h1' (fun _ => by omega), hK⟩, by omega⟩
   ·refine gn rfl <| gn rfl <| gn rfl <| gn rfl <| gn rfl <| gn rfl <| gn rfl <| gy rfl <| vl (pk rfl) <| vl (pk rfl) <| nl <| thn <| ?_
    refine cdf rfl ?_
    refine sk <| bkn <| thn <| rg <| ?_
    refine vl (ad rfl rfl) <| vl (mI rfl) <| nl <| thn <| ?_
    exact ⟨i + 1, ⟨rfl, rfl, rfl, rfl, trivial⟩, ⟨hi', ha.snoc hi' h1' (fun h => by omega), hK⟩, by omega⟩
 ·have hi' : i = xs.length := by omega
  subst hi'
  refine ex <| the <| the <| bkh <| thn <| sq <| rg <| ?_
  refine vl (aB rfl) <| nl <| thn <| rt <| p1r (a := .bool _) rfl <| ?_
  exact ⟨by rw [List.take_length] at ha; rw [dec_t ha], hK⟩

end
end Go.Proofs.Ytbkfnnifkdgbkaa