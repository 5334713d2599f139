/- Contracts of functions on strings: drawn scripts; the last lines, the whole lines. Conditions: those that each row states. -/
import Derived.Test.YtbiihblpgfgaoabGreatDoorXe
namespace Go.Proofs.YtbiihblpgfgaoabGreatDoor
open Go Go.Ro Tryz
section
variable {e w : World} {G : View} {L A : Own} {v u cva : Value} {code : List Int} {p k : Int} {l : List UInt8} {ws : List (List UInt8)} {rb : Nat}
theorem of_c (hK : K e w G ((rb, row [cva, .int .i64 p] 60) :: L)) (hcode : BytS G cva code) (hlen : code.length ≤ 2000) (h0 : 0 ≤ p) (h1 : p ≤ 1000000000) (hv : StrS G v ws) (hn : 1 ≤ ws.length) (hw : ∀ x ∈ ws, x.length ≤ 8) :
  Ret prog 25 #[.pointer (some ⟨rb, 0, none⟩), v] w (fun r w' => ∃ x, r = Sv x ∧ x.length ≤ 8 ∧ K e w' G ((rb, row [cva, .int .i64 (p + 1)] 60) :: L)) := by
 have hle := hv.1.le
 refine enter1 (args := [.pointer (some ⟨rb, 0, none⟩), v]) func25 rfl rfl rfl rfl ?_
 refine sq <| rg <| ?_
 refine vl asg <| nl <| thn <| sq <| rg <| vl mv <| vl mv <| vl mv <| vl (ln underlying47 rfl hv.len) <| ?_
 refine cl call12 rfl (pickN_c hK hcode hlen om om om) ?_
 rintro _ w ⟨⟨m, rfl, hm, hmn⟩, hK⟩
 have hi : m.toNat < ws.length := by omega
 have hcl := StrS.cell hv hi
 refine vl (ixm1 (m := m.toNat) underlying47 Ty.s9 rfl hv.1 rfl om om) <| vl (ldV hK Ty.o9 rfl hcl) <| vl asg <| nl <| thn <| rt <| p1r (a := _) rfl <| ?_
 exact ⟨_, rfl, hw _ (List.getElem_mem hi), hK⟩
set_option maxHeartbeats 2000000 in
theorem l92Line_c (hK : K e w G ((rb, row [cva, .int .i64 p] 60) :: L)) (hcode : BytS G cva code) (hlen : code.length ≤ 2000) (h0 : 0 ≤ p) (h1 : p ≤ 900000000) :
  Ret prog 13 #[.pointer (some ⟨rb, 0, none⟩)] w (fun r w' => ∃ l p' G', r = Sv l ∧ l.length ≤ 60 ∧ p ≤ p' ∧ p' ≤ p + 10 ∧ VLe G G' ∧ K e w' G' ((rb, row [cva, .int .i64 p'] 60) :: L)) := by
 refine enter1 (args := [.pointer (some ⟨rb, 0, none⟩)]) func13 rfl rfl rfl rfl ?_
 refine sq <| rg <| ?_
 refine vl asg <| nl <| thn <| sq <| rg <| vl mv <| ?_
 refine bsN [.const _, .const _, .const _, .const _, .const _, .const _] hK underlying47 Ty.i9 rfl rfl rfl rfl rfl rfl rfl rfl ?_
 intro b6 w hK
 have hL6 : K e w G ([(b6, row (([[53], [50, 48], [51, 53], [53, 48], [49, 48], [54, 51]] : List (List UInt8)).flatMap sc) 9)] ++ (_ :: L)) := hK
 clear hK
 obtain ⟨G6, hG6, hv6, hK⟩ := K.pubE (c := sc) (xs := [[53], [50, 48], [51, 53], [53, 48], [49, 48], [54, 51]]) (v := .slice (some ⟨b6, 0, none⟩) 6 6) (fun _ => rfl) hL6 (OS.lit (m := 6) rfl (by decide))
 replace hcode := hcode.mono hG6
 refine cl call25 rfl (of_c hK hcode hlen om om hv6 (by decide) (by decide)) ?_
 rintro _ w ⟨x7, rfl, hx7, hK⟩
 refine vl asg <| nl <| thn <| sq <| rg <| vl mv <| ?_
 refine bsN [.const _, .const _, .const _, .const _, .const _, .const _, .const _] hK underlying47 Ty.i9 rfl rfl rfl rfl rfl rfl rfl rfl ?_
 intro b9 w hK
 have hL9 : K e w G6 ([(b9, row (([[53], [50, 48], [51, 53], [53, 48], [49, 48], [48, 48], [54, 52]] : List (List UInt8)).flatMap sc) 9)] ++ (_ :: L)) := hK
 clear hK
 obtain ⟨G9, hG9, hv9, hK⟩ := K.pubE (c := sc) (xs := [[53], [50, 48], [51, 53], [53, 48], [49, 48], [48, 48], [54, 52]]) (v := .slice (some ⟨b9, 0, none⟩) 7 7) (fun _ => rfl) hL9 (OS.lit (m := 7) rfl (by decide))
 replace hcode := hcode.mono hG9
 refine cl call25 rfl (of_c hK hcode hlen om om hv9 (by decide) (by decide)) ?_
 rintro _ w ⟨x10, rfl, hx10, hK⟩
 refine vl asg <| nl <| thn <| sq <| sq <| rg <| vl mv <| ?_
 refine cl call12 rfl (pickN_c hK hcode hlen om om om) ?_
 rintro _ w ⟨⟨k12, rfl, hk12, hkn12⟩, hK⟩
 refine nl <| thn <| bk <| sq <| sq <| rg <| vl (eq rfl rfl) <| vl (aB rfl) <| nl <| thn <| ?_
 refine cdP rfl (fun c0 => ?_) fun c0 => ?_
 ·refine sk <| thn <| ?_
  refine cdP rfl (fun d0 => ?_) fun d0 => ?_
  ·refine sq <| rg <| ?_
   refine vl mv <| vl (sad rfl rfl (by first | omega | (simp; omega))) <| vl (sad rfl rfl (by first | omega | (simp; omega))) <| vl mv <| vl (sad rfl rfl (by first | omega | (simp; omega))) <| vl (sad rfl rfl (by first | omega | (simp; omega))) <| vl mv <| ?_
   refine bsN [.const _, .const _, .const _, .const _] hK underlying47 Ty.i9 rfl rfl rfl rfl rfl rfl rfl rfl ?_
   intro b24 w hK
   have hL24 : K e w G9 ([(b24, row (([[49], [52, 50], [57, 57], [120]] : List (List UInt8)).flatMap sc) 9)] ++ (_ :: L)) := hK
   clear hK
   obtain ⟨G24, hG24, hv24, hK⟩ := K.pubE (c := sc) (xs := [[49], [52, 50], [57, 57], [120]]) (v := .slice (some ⟨b24, 0, none⟩) 4 4) (fun _ => rfl) hL24 (OS.lit (m := 4) rfl (by decide))
   replace hcode := hcode.mono hG24
   refine cl call25 rfl (of_c hK hcode hlen om om hv24 (by decide) (by decide)) ?_
   rintro _ w ⟨x25, rfl, hx25, hK⟩
   refine vl (sad rfl rfl (by first | omega | (simp; omega))) <| vl asg <| nl <| thn <| rt <| bkr <| thr <| p1r (a := _) rfl <| ?_
   exact ⟨_, _, _, rfl, by first | omega | decide | (simp; omega), by omega, by omega, ((hG6).trans hG9).trans hG24, hK⟩
  ·exact absurd c0 d0
 ·refine sq <| rg <| ?_
  refine vl (eq rfl rfl) <| vl (aB rfl) <| nl <| thn <| ?_
  refine cdP rfl (fun c1 => ?_) fun c1 => ?_
  ·refine sk <| thn <| ?_
   refine cdP rfl (fun d1 => ?_) fun d1 => ?_
   ·refine sq <| rg <| ?_
    refine vl mv <| vl (sad rfl rfl (by first | omega | (simp; omega))) <| vl (sad rfl rfl (by first | omega | (simp; omega))) <| vl mv <| vl (sad rfl rfl (by first | omega | (simp; omega))) <| vl (sad rfl rfl (by first | omega | (simp; omega))) <| vl mv <| ?_
    refine bsN [.const _, .const _, .const _, .const _] hK underlying47 Ty.i9 rfl rfl rfl rfl rfl rfl rfl rfl ?_
    intro b24 w hK
    have hL24 : K e w G9 ([(b24, row (([[49], [52, 50], [57, 57], [120]] : List (List UInt8)).flatMap sc) 9)] ++ (_ :: L)) := hK
    clear hK
    obtain ⟨G24, hG24, hv24, hK⟩ := K.pubE (c := sc) (xs := [[49], [52, 50], [57, 57], [120]]) (v := .slice (some ⟨b24, 0, none⟩) 4 4) (fun _ => rfl) hL24 (OS.lit (m := 4) rfl (by decide))
    replace hcode := hcode.mono hG24
    refine cl call25 rfl (of_c hK hcode hlen om om hv24 (by decide) (by decide)) ?_
    rintro _ w ⟨x25, rfl, hx25, hK⟩
    refine vl (sad rfl rfl (by first | omega | (simp; omega))) <| vl asg <| nl <| thn <| rt <| bkr <| thr <| p1r (a := _) rfl <| ?_
    exact ⟨_, _, _, rfl, by first | omega | decide | (simp; omega), by omega, by omega, ((hG6).trans hG9).trans hG24, hK⟩
   ·exact absurd c1 d1
  ·refine rg <| ?_
   refine vl (eq rfl rfl) <| vl (aB rfl) <| nl <| thn <| ?_
   refine cdP rfl (fun c2 => ?_) fun c2 => ?_
   ·refine sq <| rg <| ?_
    refine vl mv <| vl (sad rfl rfl (by first | omega | (simp; omega))) <| vl (sad rfl rfl (by first | omega | (simp; omega))) <| vl mv <| vl (sad rfl rfl (by first | omega | (simp; omega))) <| vl (sad rfl rfl (by first | omega | (simp; omega))) <| vl mv <| ?_
    refine bsN [.const _, .const _, .const _, .const _] hK underlying47 Ty.i9 rfl rfl rfl rfl rfl rfl rfl rfl ?_
    intro b24 w hK
    have hL24 : K e w G9 ([(b24, row (([[49], [52, 50], [57, 57], [120]] : List (List UInt8)).flatMap sc) 9)] ++ (_ :: L)) := hK
    clear hK
    obtain ⟨G24, hG24, hv24, hK⟩ := K.pubE (c := sc) (xs := [[49], [52, 50], [57, 57], [120]]) (v := .slice (some ⟨b24, 0, none⟩) 4 4) (fun _ => rfl) hL24 (OS.lit (m := 4) rfl (by decide))
    replace hcode := hcode.mono hG24
    refine cl call25 rfl (of_c hK hcode hlen om om hv24 (by decide) (by decide)) ?_
    rintro _ w ⟨x25, rfl, hx25, hK⟩
    refine vl (sad rfl rfl (by first | omega | (simp; omega))) <| vl asg <| nl <| thn <| rt <| bkr <| thr <| p1r (a := _) rfl <| ?_
    exact ⟨_, _, _, rfl, by first | omega | decide | (simp; omega), by omega, by omega, ((hG6).trans hG9).trans hG24, hK⟩
   ·refine sq <| rg <| ?_
    refine vl (eq rfl rfl) <| vl (aB rfl) <| nl <| thn <| ?_
    refine cdP rfl (fun e0 => ?_) fun e0 => ?_
    ·refine sq <| rg <| ?_
     refine vl mv <| vl (sad rfl rfl (by first | omega | (simp; omega))) <| vl (sad rfl rfl (by first | omega | (simp; omega))) <| vl mv <| vl (sad rfl rfl (by first | omega | (simp; omega))) <| vl asg <| nl <| thn <| rt <| bkr <| thr <| p1r (a := _) rfl <| ?_
     exact ⟨_, _, _, rfl, by first | omega | decide | (simp; omega), by omega, by omega, (hG6).trans hG9, hK⟩
    ·refine sq <| rg <| ?_
     refine vl (eq rfl rfl) <| vl (aB rfl) <| nl <| thn <| ?_
     refine cdP rfl (fun e1 => ?_) fun e1 => ?_
     ·refine sq <| rg <| ?_
      refine vl mv <| vl (sad rfl rfl (by first | omega | (simp; omega))) <| vl (sad rfl rfl (by first | omega | (simp; omega))) <| vl mv <| vl (sad rfl rfl (by first | omega | (simp; omega))) <| vl asg <| nl <| thn <| rt <| bkr <| thr <| p1r (a := _) rfl <| ?_
      exact ⟨_, _, _, rfl, by first | omega | decide | (simp; omega), by omega, by omega, (hG6).trans hG9, hK⟩
     ·refine sq <| rg <| ?_
      refine vl (eq rfl rfl) <| vl (aB rfl) <| nl <| thn <| ?_
      refine cdP rfl (fun e2 => ?_) fun e2 => ?_
      ·refine sq <| rg <| ?_
       refine vl mv <| vl (sad rfl rfl (by first | omega | (simp; omega))) <| vl asg <| nl <| thn <| rt <| bkr <| thr <| p1r (a := _) rfl <| ?_
       exact ⟨_, _, _, rfl, by first | omega | decide | (simp; omega), by omega, by omega, (hG6).trans hG9, hK⟩
      ·refine sq <| rg <| ?_
       refine vl (eq rfl rfl) <| vl (aB rfl) <| nl <| thn <| ?_
       refine cdP rfl (fun e3 => ?_) fun e3 => ?_
       ·refine sq <| rg <| ?_
        refine vl mv <| ?_
        refine bsN [.const _, .const _, .const _] hK underlying47 Ty.i9 rfl rfl rfl rfl rfl rfl rfl rfl ?_
        intro b48 w hK
        have hL48 : K e w G9 ([(b48, row (([[100, 114, 111, 112, 32], [97, 100, 111, 112, 116, 32], [114, 101, 110, 101, 119, 32]] : List (List UInt8)).flatMap sc) 9)] ++ (_ :: L)) := hK
        clear hK
        obtain ⟨G48, hG48, hv48, hK⟩ := K.pubE (c := sc) (xs := [[100, 114, 111, 112, 32], [97, 100, 111, 112, 116, 32], [114, 101, 110, 101, 119, 32]]) (v := .slice (some ⟨b48, 0, none⟩) 3 3) (fun _ => rfl) hL48 (OS.lit (m := 3) rfl (by decide))
        replace hcode := hcode.mono hG48
        refine cl call25 rfl (of_c hK hcode hlen om om hv48 (by decide) (by decide)) ?_
        rintro _ w ⟨x49, rfl, hx49, hK⟩
        refine vl mv <| vl (sad rfl rfl (by first | omega | (simp; omega))) <| vl asg <| nl <| thn <| rt <| bkr <| thr <| p1r (a := _) rfl <| ?_
        exact ⟨_, _, _, rfl, by first | omega | decide | (simp; omega), by omega, by omega, ((hG6).trans hG9).trans hG48, hK⟩
       ·refine sq <| rg <| ?_
        refine vl (eq rfl rfl) <| vl (aB rfl) <| nl <| thn <| ?_
        refine cdP rfl (fun e4 => ?_) fun e4 => ?_
        ·refine sq <| rg <| ?_
         refine vl mv <| ?_
         refine bsN [.const _, .const _] hK underlying47 Ty.i9 rfl rfl rfl rfl rfl rfl rfl rfl ?_
         intro b55 w hK
         have hL55 : K e w G9 ([(b55, row (([[99, 108, 111, 115, 101, 114, 32], [110, 111, 116, 105, 102, 121, 32]] : List (List UInt8)).flatMap sc) 9)] ++ (_ :: L)) := hK
         clear hK
         obtain ⟨G55, hG55, hv55, hK⟩ := K.pubE (c := sc) (xs := [[99, 108, 111, 115, 101, 114, 32], [110, 111, 116, 105, 102, 121, 32]]) (v := .slice (some ⟨b55, 0, none⟩) 2 2) (fun _ => rfl) hL55 (OS.lit (m := 2) rfl (by decide))
         replace hcode := hcode.mono hG55
         refine cl call25 rfl (of_c hK hcode hlen om om hv55 (by decide) (by decide)) ?_
         rintro _ w ⟨x56, rfl, hx56, hK⟩
         refine vl mv <| vl (sad rfl rfl (by first | omega | (simp; omega))) <| vl (sad rfl rfl (by first | omega | (simp; omega))) <| vl mv <| vl (sad rfl rfl (by first | omega | (simp; omega))) <| vl asg <| nl <| thn <| rt <| bkr <| thr <| p1r (a := _) rfl <| ?_
         exact ⟨_, _, _, rfl, by first | omega | decide | (simp; omega), by omega, by omega, ((hG6).trans hG9).trans hG55, hK⟩
        ·refine sq <| rg <| ?_
         refine vl (eq rfl rfl) <| vl (aB rfl) <| nl <| thn <| ?_
         refine cdP rfl (fun e5 => ?_) fun e5 => ?_
         ·refine sq <| rg <| ?_
          refine vl mv <| vl (sad rfl rfl (by first | omega | (simp; omega))) <| vl (sad rfl rfl (by first | omega | (simp; omega))) <| vl mv <| ?_
          refine bsN [.const _, .const _, .const _, .const _] hK underlying47 Ty.i9 rfl rfl rfl rfl rfl rfl rfl rfl ?_
          intro b68 w hK
          have hL68 : K e w G9 ([(b68, row (([[51], [49, 50], [50, 48], [52, 48]] : List (List UInt8)).flatMap sc) 9)] ++ (_ :: L)) := hK
          clear hK
          obtain ⟨G68, hG68, hv68, hK⟩ := K.pubE (c := sc) (xs := [[51], [49, 50], [50, 48], [52, 48]]) (v := .slice (some ⟨b68, 0, none⟩) 4 4) (fun _ => rfl) hL68 (OS.lit (m := 4) rfl (by decide))
          replace hcode := hcode.mono hG68
          refine cl call25 rfl (of_c hK hcode hlen om om hv68 (by decide) (by decide)) ?_
          rintro _ w ⟨x69, rfl, hx69, hK⟩
          refine vl (sad rfl rfl (by first | omega | (simp; omega))) <| vl (sad rfl rfl (by first | omega | (simp; omega))) <| vl mv <| vl (sad rfl rfl (by first | omega | (simp; omega))) <| vl asg <| nl <| thn <| rt <| bkr <| thr <| p1r (a := _) rfl <| ?_
          exact ⟨_, _, _, rfl, by first | omega | decide | (simp; omega), by omega, by omega, ((hG6).trans hG9).trans hG68, hK⟩
         ·refine sq <| rg <| ?_
          refine vl (eq rfl rfl) <| vl (aB rfl) <| nl <| thn <| ?_
          refine cdP rfl (fun e6 => ?_) fun e6 => ?_
          ·refine sq <| rg <| ?_
           refine vl mv <| vl (sad rfl rfl (by first | omega | (simp; omega))) <| vl (sad rfl rfl (by first | omega | (simp; omega))) <| vl mv <| vl (sad rfl rfl (by first | omega | (simp; omega))) <| vl asg <| nl <| thn <| rt <| bkr <| thr <| p1r (a := _) rfl <| ?_
           exact ⟨_, _, _, rfl, by first | omega | decide | (simp; omega), by omega, by omega, (hG6).trans hG9, hK⟩
          ·refine sq <| rg <| ?_
           refine vl (eq rfl rfl) <| vl (aB rfl) <| nl <| thn <| ?_
           refine cdP rfl (fun e7 => ?_) fun e7 => ?_
           ·refine sq <| rg <| ?_
            refine vl asg <| nl <| thn <| rt <| bkr <| thr <| p1r (a := _) rfl <| ?_
            exact ⟨_, _, _, rfl, by first | omega | decide | (simp; omega), by omega, by omega, (hG6).trans hG9, hK⟩
           ·refine sq <| sq <| rg <| ?_
            refine vl (eq rfl rfl) <| vl (aB rfl) <| nl <| thn <| ?_
            refine cdP rfl (fun c100 => ?_) fun c100 => ?_
            ·refine sk <| thn <| ?_
             refine cdP rfl (fun d100 => ?_) fun d100 => ?_
             ·refine sq <| rg <| ?_
              refine vl mv <| ?_
              refine bsN [.const _, .const _, .const _] hK underlying47 Ty.i9 rfl rfl rfl rfl rfl rfl rfl rfl ?_
              intro b87 w hK
              have hL87 : K e w G9 ([(b87, row (([[98, 101, 103, 105, 110], [115, 99, 97, 110], [115, 99, 97, 110]] : List (List UInt8)).flatMap sc) 9)] ++ (_ :: L)) := hK
              clear hK
              obtain ⟨G87, hG87, hv87, hK⟩ := K.pubE (c := sc) (xs := [[98, 101, 103, 105, 110], [115, 99, 97, 110], [115, 99, 97, 110]]) (v := .slice (some ⟨b87, 0, none⟩) 3 3) (fun _ => rfl) hL87 (OS.lit (m := 3) rfl (by decide))
              replace hcode := hcode.mono hG87
              refine cl call25 rfl (of_c hK hcode hlen om om hv87 (by decide) (by decide)) ?_
              rintro _ w ⟨x88, rfl, hx88, hK⟩
              refine vl asg <| nl <| thn <| rt <| bkr <| thr <| p1r (a := _) rfl <| ?_
              exact ⟨_, _, _, rfl, by first | omega | decide | (simp; omega), by omega, by omega, ((hG6).trans hG9).trans hG87, hK⟩
             ·exact absurd c100 d100
            ·refine rg <| ?_
             refine vl (eq rfl rfl) <| vl (aB rfl) <| nl <| thn <| ?_
             refine cdP rfl (fun c101 => ?_) fun c101 => ?_
             ·refine sq <| rg <| ?_
              refine vl mv <| ?_
              refine bsN [.const _, .const _, .const _] hK underlying47 Ty.i9 rfl rfl rfl rfl rfl rfl rfl rfl ?_
              intro b87 w hK
              have hL87 : K e w G9 ([(b87, row (([[98, 101, 103, 105, 110], [115, 99, 97, 110], [115, 99, 97, 110]] : List (List UInt8)).flatMap sc) 9)] ++ (_ :: L)) := hK
              clear hK
              obtain ⟨G87, hG87, hv87, hK⟩ := K.pubE (c := sc) (xs := [[98, 101, 103, 105, 110], [115, 99, 97, 110], [115, 99, 97, 110]]) (v := .slice (some ⟨b87, 0, none⟩) 3 3) (fun _ => rfl) hL87 (OS.lit (m := 3) rfl (by decide))
              replace hcode := hcode.mono hG87
              refine cl call25 rfl (of_c hK hcode hlen om om hv87 (by decide) (by decide)) ?_
              rintro _ w ⟨x88, rfl, hx88, hK⟩
              refine vl asg <| nl <| thn <| rt <| bkr <| thr <| p1r (a := _) rfl <| ?_
              exact ⟨_, _, _, rfl, by first | omega | decide | (simp; omega), by omega, by omega, ((hG6).trans hG9).trans hG87, hK⟩
             ·refine sq <| rg <| ?_
              refine vl (eq rfl rfl) <| vl (aB rfl) <| nl <| thn <| ?_
              refine cdP rfl (fun e9 => ?_) fun e9 => ?_
              ·refine sq <| rg <| ?_
               refine vl mv <| ?_
               refine bsN [.const _, .const _, .const _] hK underlying47 Ty.i9 rfl rfl rfl rfl rfl rfl rfl rfl ?_
               intro b92 w hK
               have hL92 : K e w G9 ([(b92, row (([[114, 105, 110, 103], [108, 101, 97, 115, 101, 115], [99, 97, 108, 109]] : List (List UInt8)).flatMap sc) 9)] ++ (_ :: L)) := hK
               clear hK
               obtain ⟨G92, hG92, hv92, hK⟩ := K.pubE (c := sc) (xs := [[114, 105, 110, 103], [108, 101, 97, 115, 101, 115], [99, 97, 108, 109]]) (v := .slice (some ⟨b92, 0, none⟩) 3 3) (fun _ => rfl) hL92 (OS.lit (m := 3) rfl (by decide))
               replace hcode := hcode.mono hG92
               refine cl call25 rfl (of_c hK hcode hlen om om hv92 (by decide) (by decide)) ?_
               rintro _ w ⟨x93, rfl, hx93, hK⟩
               refine vl asg <| nl <| thn <| rt <| bkr <| thr <| p1r (a := _) rfl <| ?_
               exact ⟨_, _, _, rfl, by first | omega | decide | (simp; omega), by omega, by omega, ((hG6).trans hG9).trans hG92, hK⟩
              ·refine sq <| rg <| ?_
               refine vl (eq rfl rfl) <| vl (aB rfl) <| nl <| thn <| ?_
               refine cdP rfl (fun e10 => ?_) fun e10 => ?_
               ·refine sq <| rg <| ?_
                refine vl mv <| vl (sad rfl rfl (by first | omega | (simp; omega))) <| vl asg <| nl <| thn <| rt <| bkr <| thr <| p1r (a := _) rfl <| ?_
                exact ⟨_, _, _, rfl, by first | omega | decide | (simp; omega), by omega, by omega, (hG6).trans hG9, hK⟩
               ·refine sk <| bkn <| thn <| sq <| rg <| ?_
                refine vl mv <| ?_
                refine bsN [.const _, .const _, .const _, .const _, .const _, .const _] hK underlying47 Ty.i9 rfl rfl rfl rfl rfl rfl rfl rfl ?_
                intro b99 w hK
                have hL99 : K e w G9 ([(b99, row (([[], [119, 104, 97, 116], [112, 117, 116, 32, 53], [111, 119, 110, 101, 114], [116, 105, 99, 107, 32, 49], [115, 99, 97, 110, 32, 120]] : List (List UInt8)).flatMap sc) 9)] ++ (_ :: L)) := hK
                clear hK
                obtain ⟨G99, hG99, hv99, hK⟩ := K.pubE (c := sc) (xs := [[], [119, 104, 97, 116], [112, 117, 116, 32, 53], [111, 119, 110, 101, 114], [116, 105, 99, 107, 32, 49], [115, 99, 97, 110, 32, 120]]) (v := .slice (some ⟨b99, 0, none⟩) 6 6) (fun _ => rfl) hL99 (OS.lit (m := 6) rfl (by decide))
                replace hcode := hcode.mono hG99
                refine cl call25 rfl (of_c hK hcode hlen om om hv99 (by decide) (by decide)) ?_
                rintro _ w ⟨x100, rfl, hx100, hK⟩
                refine vl asg <| nl <| thn <| rt <| p1r (a := _) rfl <| ?_
                exact ⟨_, _, _, rfl, by first | omega | decide | (simp; omega), by omega, by omega, ((hG6).trans hG9).trans hG99, hK⟩
theorem l6Many_c {n : Nat} {z : Int} (hz : z = (n : Int)) (hK : K e w G L) (hn : n ≤ 1000) (hl : l.length ≤ 1000) :
  Ret prog 14 #[Sv l, .int .i64 z] w (fun r w' => (∃ m, r = Sv m ∧ m.length ≤ l.length * n) ∧ K e w' G L) := by
 subst hz
 have hbd : l.length * n ≤ 1000000 := Nat.mul_le_mul hl hn
 refine enter1 (args := [Sv l, .int .i64 (n : Int)]) func14 rfl rfl rfl rfl ?_
 refine sq <| rg <| ?_
 refine vl asg <| nl <| thn <| sq <| rg <| vl asg <| nl <| thn <| sq <| bk <| ?_
 refine lp (σ := Nat × List UInt8 × List UInt8) (fun s => [(0, Sv s.2.1), (1, .int .i64 (s.1 : Int)), (5, Sv s.2.2)]) (fun s w => s.2.2.length + s.2.1.length * s.1 ≤ l.length * n ∧ s.1 ≤ 1000 ∧ K e w G L) (fun s => s.1) (n, l, []) ⟨rfl, rfl, rfl, trivial⟩ ⟨by simp, hn, hK⟩ ?_
 clear hK hn
 rintro ⟨n1, s, o⟩ g w ⟨hb, hn, hK⟩
 simp only at hb hn hK
 refine sq <| sq <| rg <| ?_
 refine vl (mI rfl) <| vl (gt rfl rfl) <| nl <| thn <| ?_
 refine cdP rfl (fun hc => ?_) fun hc => ?_
 ·have hc' : 0 < n1 := by simp only at hc; omega
  have hsl : s.length ≤ s.length * n1 := Nat.le_mul_of_pos_right _ hc'
  have hdm : s.length * n1 = s.length * (n1 % 2) + (s.length + s.length) * (n1 / 2) := by
   have h := Nat.div_add_mod n1 2
   calc s.length * n1 = s.length * (2 * (n1 / 2) + n1 % 2) := by rw [h]
    _ = s.length * (n1 % 2) + (s.length + s.length) * (n1 / 2) := by rw [Nat.mul_add, Nat.add_comm, ← Nat.mul_assoc, Nat.mul_two]
  refine sk <| thn <| bk <| sq <| sq <| rg <| ?_
  refine vl (mI rfl) <| vl (rmN (a := n1) (k := 2) rfl rfl om) <| vl (eq rfl rfl) <| nl <| thn <| ?_
  refine cdP rfl (fun hx => ?_) fun hx => ?_
  ·have hx' : n1 % 2 = 1 := by omega
   rw [hx', Nat.mul_one] at hdm
   refine rg <| ?_
   refine vl mv <| vl mv <| vl (sad rfl rfl (by first | omega | (simp; omega))) <| vl asg <| nl <| thn <| sq <| rg <| vl mv <| vl mv <| vl (sad rfl rfl (by first | omega | (simp; omega))) <| vl asg <| nl <| thn <| rg <| vl (mI rfl) <| vl (quN (a := n1) (k := 2) rfl rfl om om) <| vl (aI rfl) <| nl <| bkn <| thn <| ?_
   exact ⟨(n1 / 2, s ++ s, o ++ s), ⟨rfl, rfl, rfl, trivial⟩, ⟨by simp only [List.length_append]; omega, by simp only; omega, hK⟩, by simp only; omega⟩
  ·have hx' : n1 % 2 = 0 := by omega
   rw [hx', Nat.mul_zero, Nat.zero_add] at hdm
   refine sk <| thn <| sq <| rg <| ?_
   refine vl mv <| vl mv <| vl (sad rfl rfl (by first | omega | (simp; omega))) <| vl asg <| nl <| thn <| rg <| vl (mI rfl) <| vl (quN (a := n1) (k := 2) rfl rfl om om) <| vl (aI rfl) <| nl <| bkn <| thn <| ?_
   exact ⟨(n1 / 2, s ++ s, o), ⟨rfl, rfl, rfl, trivial⟩, ⟨by simp only [List.length_append]; omega, by simp only; omega, hK⟩, by simp only; omega⟩
 ·refine ex <| the <| the <| bkh <| thn <| sq <| rg <| ?_
  refine vl mv <| vl asg <| nl <| thn <| rt <| p1r (a := _) rfl <| ?_
  exact ⟨⟨o, rfl, by omega⟩, hK⟩
set_option maxHeartbeats 1000000 in
theorem DrawExecute_c (hK : K e w G L) (hc : BytS G cva code) : Ret prog 7 #[cva] w (fun r w' => ∃ l G', r = Sv l ∧ l.length ≤ 100000 ∧ VLe G G' ∧ K e w' G' L) := by
 refine enter1 (args := [cva]) func7 rfl rfl rfl rfl ?_
 refine sq <| rg <| ?_
 refine vl asg <| nl <| thn <| sq <| rg <| vl mv <| ?_
 refine cl call11 rfl (l6Open_c hK hc) ?_
 rintro _ w ⟨rb, cvb, code, rfl, hcode, hlen, hK⟩
 refine vl asg <| nl <| thn <| sq <| rg <| vl asg <| nl <| thn <| sq <| sq <| rg <| vl (aI rfl) <| nl <| thn <| bk <| ?_
 refine lp (σ := Nat × Int × List UInt8 × View) (fun s => [(3, .pointer (some ⟨rb, 0, none⟩)), (4, Sv s.2.2.1), (5, .int .i64 (s.1 : Int))]) (fun s w => s.1 ≤ 28 ∧ 0 ≤ s.2.1 ∧ s.2.1 ≤ 20 * (s.1 : Int) ∧ s.2.2.1.length ≤ 61 * s.1 ∧ VLe G s.2.2.2 ∧ K e w s.2.2.2 ((rb, row [cvb, .int .i64 s.2.1] 60) :: L)) (fun s => 28 - s.1) (0, 0, [], G) ⟨rfl, rfl, rfl, trivial⟩ ⟨by simp, by simp, by simp, by simp, VLe.refl _, hK⟩ ?_
 have hcode0 := hcode
 clear hK hcode
 rintro ⟨i, p, o, G1⟩ g w ⟨hi, hp0, hp1, hol, hG1, hK⟩
 simp only at hi hp0 hp1 hol hG1 hK
 have hcode := hcode0.mono hG1
 refine sq <| sq <| rg <| ?_
 refine vl (mI rfl) <| vl mv <| ?_
 refine cl call12 rfl (pickN_c hK hcode hlen om om om) ?_
 rintro _ w ⟨⟨k10, rfl, hk10, hkn10⟩, hK⟩
 refine vl (lt rfl rfl) <| nl <| thn <| ?_
 refine cdP rfl (fun hcd => ?_) fun hcd => ?_
 ·have hi' : i < 28 := by simp only at hcd; omega
  refine sk <| thn <| sq <| bk <| rg <| ?_
  refine vl mv <| vl mv <| ?_
  refine cl call13 rfl (l92Line_c hK hcode hlen om om) ?_
  rintro _ w ⟨x, p2, G2, rfl, hx, hq1, hq2, hG2, hK⟩
  refine vl (sad rfl rfl (by first | omega | (simp; omega))) <| vl (sad rfl rfl (by first | omega | (simp; omega))) <| vl asg <| nl <| bkn <| thn <| rg <| vl (mI rfl) <| vl (ad rfl rfl) <| vl (aI rfl) <| nl <| thn <| ?_
  exact ⟨(i + 1, p2, o ++ x ++ [10], G2), ⟨rfl, rfl, rfl, trivial⟩, ⟨by simp only; omega, by simp only; omega, by simp only; omega, by simp only [List.length_append, List.length_singleton]; omega, hG1.trans hG2, hK⟩, by simp only; omega⟩
 ·refine ex <| the <| the <| bkh <| thn <| sq <| sq <| rg <| ?_
  refine vl mv <| ?_
  refine cl call12 rfl (pickN_c hK hcode hlen om om om) ?_
  rintro _ w ⟨⟨k20, rfl, hk20, hkn20⟩, hK⟩
  refine vl (eq rfl rfl) <| nl <| thn <| ?_
  refine ct (σ := Int × List UInt8) (fun s => [(3, .pointer (some ⟨rb, 0, none⟩)), (4, Sv s.2)]) (fun s w => 0 ≤ s.1 ∧ s.1 ≤ 1000 ∧ s.2.length ≤ 90000 ∧ K e w G1 ((rb, row [cvb, .int .i64 s.1] 60) :: L)) ?_ ?_
  ·refine cdP rfl (fun h24 => ?_) fun h24 => ?_
   ·refine rg <| ?_
    refine vl mv <| vl mv <| ?_
    refine cl call12 rfl (pickN_c hK hcode hlen om om om) ?_
    rintro _ w ⟨⟨k24, rfl, hk24, hkn24⟩, hK⟩
    refine vl (ad rfl rfl) <| ?_
    refine cl call14 rfl (l6Many_c (n := (116 + k24).toNat) om hK om (by decide)) ?_
    rintro _ w ⟨⟨m, rfl, hm⟩, hK⟩
    have hm2 : m.length ≤ 5 * 1000 := Nat.le_trans hm (Nat.mul_le_mul (by decide) (by omega))
    refine vl (sad rfl rfl (by first | omega | (simp; omega))) <| vl asg <| nl <| ctn <| ?_
    exact ⟨(_, _), ⟨rfl, rfl, trivial⟩, ⟨by simp only; omega, by simp only; omega, by simp only [List.length_append]; omega, hK⟩⟩
   ·refine sk <| ctn <| ?_
    exact ⟨(_, _), ⟨rfl, rfl, trivial⟩, ⟨by simp only; omega, by simp only; omega, by simp only; omega, hK⟩⟩
  ·clear hK hp0 hp1 hol
   rintro ⟨p, o⟩ g w ⟨hp0, hp1, hol, hK⟩
   simp only at hp0 hp1 hol hK
   refine thn <| sq <| sq <| rg <| ?_
   refine vl mv <| ?_
   refine cl call12 rfl (pickN_c hK hcode hlen om om om) ?_
   rintro _ w ⟨⟨k29, rfl, hk29, hkn29⟩, hK⟩
   refine vl (eq rfl rfl) <| nl <| thn <| ?_
   refine cdP rfl (fun h8 => ?_) fun h8 => ?_
   ·refine rg <| ?_
    refine vl mv <| vl mv <| ?_
    refine cl call13 rfl (l92Line_c hK hcode hlen om om) ?_
    rintro _ w ⟨x, p2, G2, rfl, hx, hq1, hq2, hG2, hK⟩
    refine vl (sad rfl rfl (by first | omega | (simp; omega))) <| vl asg <| nl <| thn <| sq <| rg <| vl mv <| vl asg <| nl <| thn <| rt <| p1r (a := _) rfl <| ?_
    exact ⟨o ++ x, G2, rfl, by rw [List.length_append]; omega, hG1.trans hG2, hK.drop1⟩
   ·refine sk <| thn <| sq <| rg <| ?_
    refine vl mv <| vl asg <| nl <| thn <| rt <| p1r (a := _) rfl <| ?_
    exact ⟨o, G1, rfl, by omega, hG1, hK.drop1⟩
theorem completeLines_c (hK : K e w G L) (hl : l.length ≤ 1000000000) : Ret prog 10 #[Sv l] w (fun r w' => r = Sv (cmpT l) ∧ K e w' G L) := by
 refine enter1 (args := [Sv l]) func10 rfl rfl rfl rfl ?_
 refine sq <| rg <| ?_
 refine vl asg <| nl <| thn <| sq <| sq <| rg <| vl mv <| vl (sln underlying9 rfl) <| vl (aI rfl) <| nl <| thn <| bk <| ?_
 refine lp (σ := Nat) (fun j => [(0, Sv l), (3, .int .i64 (j : Int))]) (fun j w => j ≤ l.length ∧ cmpN l j = cmpT l ∧ K e w G L) (fun j => j) l.length ⟨rfl, rfl, trivial⟩ ⟨Nat.le_refl _, rfl, hK⟩ ?_
 clear hK
 rintro j g w ⟨hj, he, hK⟩
 refine sq <| sq <| rg <| ?_
 refine vl (mI rfl) <| vl (gt rfl rfl) <| nl <| thn <| ?_
 refine cdP rfl (fun hc => ?_) fun hc => ?_
 ·obtain ⟨j, rfl⟩ : ∃ m, j = m + 1 := ⟨j - 1, by omega⟩
  have hj' : j < l.length := by omega
  have hat : l[j]? = some l[j] := List.getElem?_eq_getElem hj'
  rw [cmpN, hat] at he
  refine sk <| thn <| sq <| bk <| sq <| rg <| ?_
  refine vl mv <| vl (mI rfl) <| vl (sb rfl rfl) <| vl (six (i := j) underlying9 rfl (by exact congrArg (Value.int .i64) (by omega : (((j + 1 : Nat) : Int) - 1) = (j : Int))) hj') <| vl (eq rfl rfl) <| nl <| thn <| ?_
  refine cdP rfl (fun hx => ?_) fun hx => ?_
  ·have hx' : l[j] = 10 := u8eq hx
   rw [if_pos (congrArg some hx')] at he
   refine sq <| rg <| ?_
   refine vl mv <| vl (mI rfl) <| vl (sslH underlying9 rfl rfl om) <| vl asg <| nl <| thn <| rt <| bkr <| thr <| thr <| bkr <| thr <| p1r (a := _) rfl <| ?_
   exact ⟨congrArg Sv he, hK⟩
  ·have hx' : ¬ some l[j] = some (10 : UInt8) := fun h => hx (by rw [Option.some.inj h]; rfl)
   rw [if_neg hx'] at he
   refine sk <| bkn <| thn <| rg <| ?_
   refine vl (mI rfl) <| vl (sb rfl rfl) <| vl (aI rfl) <| nl <| thn <| ?_
   exact ⟨j, ⟨rfl, congrArg (Value.int .i64) (by omega), trivial⟩, ⟨by omega, he, hK⟩, by omega⟩
 ·obtain rfl : j = 0 := by omega
  refine ex <| the <| the <| bkh <| thn <| sq <| rg <| ?_
  refine vl asg <| nl <| thn <| rt <| p1r (a := _) rfl <| ?_
  exact ⟨congrArg Sv he, hK⟩
end
end Go.Proofs.YtbiihblpgfgaoabGreatDoor
