/- The steps of the program's rings. The program's worlds: items found, put and erased. Conditions: those that each row states. -/
import Derived.Test.YtbiihblpgfgaoabGreatDoorRj
import Derived.Test.YtbiihblpgfgaoabGreatDoorPlM
namespace Go.Proofs.YtbiihblpgfgaoabGreatDoor
open Go Go.Ro Tryz
section
variable {e w : World} {G : View} {L A : Own} {v u : Value} {rs qs : List Rn} {a b k id other at' : Int} {i sb bk : Nat}
theorem stp_bool {G : View} {t s sb : Nat} {L : Own} {o : Option (List Nd)} {r : Value} {w : World} (h : StpR e G t s sb L o r w) : ∃ b, r = .bool b := by
 rcases h with ⟨rfl, _⟩ | ⟨_, _, _, _, rfl, _⟩ <;> exact ⟨_, rfl⟩
theorem RingJoin1_c {t b4 b5 : Nat} (hsf : RgSafe (rgl rs)) (hid : Pt id) (hat : Pt at') (ho : OR G 84 v rs A) (h4 : (b4, row [.int .i64 id] t) ∈ L) (h5 : (b5, row [.int .i64 at'] t) ∈ L) (hK : K e w G ((sb, row [v] 225) :: (A ++ L))) :
  Ret prog 250 #[.pointer (some ⟨sb, 0, none⟩), .pointer (some ⟨b4, 0, none⟩), .pointer (some ⟨b5, 0, none⟩)] w (StpR e G 84 225 sb L (joinR (rgl rs) id at')) := by
 refine enter1 (args := [.pointer (some ⟨sb, 0, none⟩), .pointer (some ⟨b4, 0, none⟩), .pointer (some ⟨b5, 0, none⟩)]) func250 rfl rfl rfl rfl ?_
 refine sq <| rg <| ?_
 refine vl (aB rfl) <| nl <| thn <| sq <| rg <| vl mv <| vl (ldC Ty.o3 rfl (row_cell (l := [Value.int .i64 id]) (hK.own _ _ (List.mem_cons_of_mem _ (List.mem_append_right _ h4))))) <| vl (ldC Ty.o3 rfl (row_cell (l := [Value.int .i64 at']) (hK.own _ _ (List.mem_cons_of_mem _ (List.mem_append_right _ h5))))) <| ?_
 refine cl call251 rfl (joinStep_c hsf hid hat ho hK) ?_
 rintro r w hR
 obtain ⟨bb, rfl⟩ := stp_bool hR
 refine vl (aB rfl) <| nl <| thn <| rt <| p1r (a := .bool _) rfl <| ?_
 exact hR
theorem implRingJoin_c (hK : K e w G L) (hv : RngS G v rs) : Ret prog 221 #[v, .int .i64 id, .int .i64 at'] w (fun r w' => ∃ G', VLe G G' ∧ RgA G' r (tk (rgl rs) (Pt id ∧ Pt at') (joinR (rgl rs) id at')) ∧ K e w' G' L) := by
 have e1 : (∀ x ∈ [id, at'], Pt x) = (Pt id ∧ Pt at') := propext ⟨fun h => ⟨h id (by simp), h at' (by simp)⟩, fun h => mk2 h⟩
 refine enter2 (args := [v, .int .i64 id, .int .i64 at']) func221 rfl rfl rfl rfl ?_
 refine sq <| rg <| ?_
 refine bx hK rfl rfl ?_
 intro b4 w hK
 refine bx hK rfl rfl ?_
 intro b5 w hK
 refine vl asg <| vl (aB rfl) <| nl <| thn <| sq <| rg <| vl mv <| vl (mkf rfl) <| vl (ldO hK Ty.o3 1 rfl rfl rfl) <| vl (ldO hK Ty.o3 0 rfl rfl rfl) <| ?_
 refine bsN [.tmp 10, .tmp 11] hK underlying35 Ty.i3 rfl rfl rfl rfl rfl rfl rfl rfl ?_
 intro b12 w hK
 refine cl call225 rfl (take_c (F := 250) (cap := [.pointer (some ⟨b4, 0, none⟩), .pointer (some ⟨b5, 0, none⟩)]) (xs := [id, at']) (o := joinR (rgl rs) id at') call250 hK rfl hv (fun G' sb v' rs' A w hG hsf hx hr ho hK => by rw [← hr]; exact RingJoin1_c (t := 3) (by rw [hr]; exact hsf) (hx id (by simp)) (hx at' (by simp)) ho (List.mem_cons_of_mem _ (List.mem_cons_of_mem _ (List.mem_cons_self ..))) (List.mem_cons_of_mem _ (List.mem_cons_self ..)) hK)) ?_
 rintro _ w ⟨G1, hG1, hR, hK⟩
 rw [e1] at hR
 obtain ⟨v', qs, rfl, hq, hqr⟩ := hR
 refine vl (ext rfl rfl) <| vl (ext rfl rfl) <| vl asg <| vl (aB rfl) <| nl <| thn <| rt <| p2r (a := _) (b := .bool _) rfl rfl <| ?_
 exact ⟨G1, hG1, ⟨v', qs, rfl, hq, hqr⟩, hK.drop1.drop1⟩
theorem RingFail1_c {t b3 : Nat} (hsf : RgSafe (rgl rs)) (ho : OR G 84 v rs A) (h3 : (b3, row [.int .i64 id] t) ∈ L) (hK : K e w G ((sb, row [v] 225) :: (A ++ L))) :
  Ret prog 252 #[.pointer (some ⟨sb, 0, none⟩), .pointer (some ⟨b3, 0, none⟩)] w (StpR e G 84 225 sb L (failR (rgl rs) id)) := by
 refine enter1 (args := [.pointer (some ⟨sb, 0, none⟩), .pointer (some ⟨b3, 0, none⟩)]) func252 rfl rfl rfl rfl ?_
 refine sq <| rg <| ?_
 refine vl (aB rfl) <| nl <| thn <| sq <| rg <| vl mv <| vl (ldC Ty.o3 rfl (row_cell (l := [Value.int .i64 id]) (hK.own _ _ (List.mem_cons_of_mem _ (List.mem_append_right _ h3))))) <| ?_
 refine cl call253 rfl (failStep_c hsf ho hK) ?_
 rintro r w hR
 obtain ⟨bb, rfl⟩ := stp_bool hR
 refine vl (aB rfl) <| nl <| thn <| rt <| p1r (a := .bool _) rfl <| ?_
 exact hR
theorem implRingFail_c (hK : K e w G L) (hv : RngS G v rs) : Ret prog 222 #[v, .int .i64 id] w (fun r w' => ∃ G', VLe G G' ∧ RgA G' r (tk (rgl rs) (Pt id) (failR (rgl rs) id)) ∧ K e w' G' L) := by
 have e1 : (∀ x ∈ [id], Pt x) = Pt id := propext ⟨fun h => h id (by simp), fun h x hx => by obtain rfl := List.mem_singleton.1 hx; exact h⟩
 refine enter2 (args := [v, .int .i64 id]) func222 rfl rfl rfl rfl ?_
 refine sq <| rg <| ?_
 refine bx hK rfl rfl ?_
 intro b3 w hK
 refine vl asg <| vl (aB rfl) <| nl <| thn <| sq <| rg <| vl mv <| vl (mkf rfl) <| vl (ldO hK Ty.o3 0 rfl rfl rfl) <| ?_
 refine bsN [.tmp 8] hK underlying35 Ty.i3 rfl rfl rfl rfl rfl rfl rfl rfl ?_
 intro b9 w hK
 refine cl call225 rfl (take_c (F := 252) (cap := [.pointer (some ⟨b3, 0, none⟩)]) (xs := [id]) (o := failR (rgl rs) id) call252 hK rfl hv (fun G' sb v' rs' A w hG hsf hx hr ho hK => by rw [← hr]; exact RingFail1_c (t := 3) (by rw [hr]; exact hsf) ho (List.mem_cons_of_mem _ (List.mem_cons_self ..)) hK)) ?_
 rintro _ w ⟨G1, hG1, hR, hK⟩
 rw [e1] at hR
 obtain ⟨v', qs, rfl, hq, hqr⟩ := hR
 refine vl (ext rfl rfl) <| vl (ext rfl rfl) <| vl asg <| vl (aB rfl) <| nl <| thn <| rt <| p2r (a := _) (b := .bool _) rfl rfl <| ?_
 exact ⟨G1, hG1, ⟨v', qs, rfl, hq, hqr⟩, hK.drop1⟩
theorem RingDrop1_c {t b3 : Nat} (hsf : RgSafe (rgl rs)) (ho : OR G 84 v rs A) (h3 : (b3, row [.int .i64 id] t) ∈ L) (hK : K e w G ((sb, row [v] 225) :: (A ++ L))) :
  Ret prog 226 #[.pointer (some ⟨sb, 0, none⟩), .pointer (some ⟨b3, 0, none⟩)] w (StpR e G 84 225 sb L (dropR (rgl rs) id)) := by
 refine enter1 (args := [.pointer (some ⟨sb, 0, none⟩), .pointer (some ⟨b3, 0, none⟩)]) func226 rfl rfl rfl rfl ?_
 refine sq <| rg <| ?_
 refine vl (aB rfl) <| nl <| thn <| sq <| rg <| vl mv <| vl (ldC Ty.o3 rfl (row_cell (l := [Value.int .i64 id]) (hK.own _ _ (List.mem_cons_of_mem _ (List.mem_append_right _ h3))))) <| ?_
 refine cl call227 rfl (dropStep_c hsf ho hK) ?_
 rintro r w hR
 obtain ⟨bb, rfl⟩ := stp_bool hR
 refine vl (aB rfl) <| nl <| thn <| rt <| p1r (a := .bool _) rfl <| ?_
 exact hR
theorem implRingDrop_c (hK : K e w G L) (hv : RngS G v rs) : Ret prog 197 #[v, .int .i64 id] w (fun r w' => ∃ G', VLe G G' ∧ RgA G' r (tk (rgl rs) (Pt id) (dropR (rgl rs) id)) ∧ K e w' G' L) := by
 have e1 : (∀ x ∈ [id], Pt x) = Pt id := propext ⟨fun h => h id (by simp), fun h x hx => by obtain rfl := List.mem_singleton.1 hx; exact h⟩
 refine enter2 (args := [v, .int .i64 id]) func197 rfl rfl rfl rfl ?_
 refine sq <| rg <| ?_
 refine bx hK rfl rfl ?_
 intro b3 w hK
 refine vl asg <| vl (aB rfl) <| nl <| thn <| sq <| rg <| vl mv <| vl (mkf rfl) <| vl (ldO hK Ty.o3 0 rfl rfl rfl) <| ?_
 refine bsN [.tmp 8] hK underlying35 Ty.i3 rfl rfl rfl rfl rfl rfl rfl rfl ?_
 intro b9 w hK
 refine cl call225 rfl (take_c (F := 226) (cap := [.pointer (some ⟨b3, 0, none⟩)]) (xs := [id]) (o := dropR (rgl rs) id) call226 hK rfl hv (fun G' sb v' rs' A w hG hsf hx hr ho hK => by rw [← hr]; exact RingDrop1_c (t := 3) (by rw [hr]; exact hsf) ho (List.mem_cons_of_mem _ (List.mem_cons_self ..)) hK)) ?_
 rintro _ w ⟨G1, hG1, hR, hK⟩
 rw [e1] at hR
 obtain ⟨v', qs, rfl, hq, hqr⟩ := hR
 refine vl (ext rfl rfl) <| vl (ext rfl rfl) <| vl asg <| vl (aB rfl) <| nl <| thn <| rt <| p2r (a := _) (b := .bool _) rfl rfl <| ?_
 exact ⟨G1, hG1, ⟨v', qs, rfl, hq, hqr⟩, hK.drop1⟩
theorem RingAdopt1_c {t b3 : Nat} (hsf : RgSafe (rgl rs)) (ho : OR G 84 v rs A) (h3 : (b3, row [.int .i64 id] t) ∈ L) (hK : K e w G ((sb, row [v] 225) :: (A ++ L))) :
  Ret prog 228 #[.pointer (some ⟨sb, 0, none⟩), .pointer (some ⟨b3, 0, none⟩)] w (StpR e G 84 225 sb L (adoptR (rgl rs) id)) := by
 refine enter1 (args := [.pointer (some ⟨sb, 0, none⟩), .pointer (some ⟨b3, 0, none⟩)]) func228 rfl rfl rfl rfl ?_
 refine sq <| rg <| ?_
 refine vl (aB rfl) <| nl <| thn <| sq <| rg <| vl mv <| vl (ldC Ty.o3 rfl (row_cell (l := [Value.int .i64 id]) (hK.own _ _ (List.mem_cons_of_mem _ (List.mem_append_right _ h3))))) <| ?_
 refine cl call229 rfl (adoptStep_c hsf ho hK) ?_
 rintro r w hR
 obtain ⟨bb, rfl⟩ := stp_bool hR
 refine vl (aB rfl) <| nl <| thn <| rt <| p1r (a := .bool _) rfl <| ?_
 exact hR
theorem implRingAdopt_c (hK : K e w G L) (hv : RngS G v rs) : Ret prog 198 #[v, .int .i64 id] w (fun r w' => ∃ G', VLe G G' ∧ RgA G' r (tk (rgl rs) (Pt id) (adoptR (rgl rs) id)) ∧ K e w' G' L) := by
 have e1 : (∀ x ∈ [id], Pt x) = Pt id := propext ⟨fun h => h id (by simp), fun h x hx => by obtain rfl := List.mem_singleton.1 hx; exact h⟩
 refine enter2 (args := [v, .int .i64 id]) func198 rfl rfl rfl rfl ?_
 refine sq <| rg <| ?_
 refine bx hK rfl rfl ?_
 intro b3 w hK
 refine vl asg <| vl (aB rfl) <| nl <| thn <| sq <| rg <| vl mv <| vl (mkf rfl) <| vl (ldO hK Ty.o3 0 rfl rfl rfl) <| ?_
 refine bsN [.tmp 8] hK underlying35 Ty.i3 rfl rfl rfl rfl rfl rfl rfl rfl ?_
 intro b9 w hK
 refine cl call225 rfl (take_c (F := 228) (cap := [.pointer (some ⟨b3, 0, none⟩)]) (xs := [id]) (o := adoptR (rgl rs) id) call228 hK rfl hv (fun G' sb v' rs' A w hG hsf hx hr ho hK => by rw [← hr]; exact RingAdopt1_c (t := 3) (by rw [hr]; exact hsf) ho (List.mem_cons_of_mem _ (List.mem_cons_self ..)) hK)) ?_
 rintro _ w ⟨G1, hG1, hR, hK⟩
 rw [e1] at hR
 obtain ⟨v', qs, rfl, hq, hqr⟩ := hR
 refine vl (ext rfl rfl) <| vl (ext rfl rfl) <| vl asg <| vl (aB rfl) <| nl <| thn <| rt <| p2r (a := _) (b := .bool _) rfl rfl <| ?_
 exact ⟨G1, hG1, ⟨v', qs, rfl, hq, hqr⟩, hK.drop1⟩
theorem RingCloser1_c {t b4 b5 : Nat} (hsf : RgSafe (rgl rs)) (hid : Pt id) (hat : Pt at') (ho : OR G 84 v rs A) (h4 : (b4, row [.int .i64 id] t) ∈ L) (h5 : (b5, row [.int .i64 at'] t) ∈ L) (hK : K e w G ((sb, row [v] 225) :: (A ++ L))) :
  Ret prog 230 #[.pointer (some ⟨sb, 0, none⟩), .pointer (some ⟨b4, 0, none⟩), .pointer (some ⟨b5, 0, none⟩)] w (StpR e G 84 225 sb L (closerR (rgl rs) id at')) := by
 refine enter1 (args := [.pointer (some ⟨sb, 0, none⟩), .pointer (some ⟨b4, 0, none⟩), .pointer (some ⟨b5, 0, none⟩)]) func230 rfl rfl rfl rfl ?_
 refine sq <| rg <| ?_
 refine vl (aB rfl) <| nl <| thn <| sq <| rg <| vl mv <| vl (ldC Ty.o3 rfl (row_cell (l := [Value.int .i64 id]) (hK.own _ _ (List.mem_cons_of_mem _ (List.mem_append_right _ h4))))) <| vl (ldC Ty.o3 rfl (row_cell (l := [Value.int .i64 at']) (hK.own _ _ (List.mem_cons_of_mem _ (List.mem_append_right _ h5))))) <| ?_
 refine cl call231 rfl (closerStep_c hsf hid hat ho hK) ?_
 rintro r w hR
 obtain ⟨bb, rfl⟩ := stp_bool hR
 refine vl (aB rfl) <| nl <| thn <| rt <| p1r (a := .bool _) rfl <| ?_
 exact hR
theorem implRingCloser_c (hK : K e w G L) (hv : RngS G v rs) : Ret prog 199 #[v, .int .i64 id, .int .i64 at'] w (fun r w' => ∃ G', VLe G G' ∧ RgA G' r (tk (rgl rs) (Pt id ∧ Pt at') (closerR (rgl rs) id at')) ∧ K e w' G' L) := by
 have e1 : (∀ x ∈ [id, at'], Pt x) = (Pt id ∧ Pt at') := propext ⟨fun h => ⟨h id (by simp), h at' (by simp)⟩, fun h => mk2 h⟩
 refine enter2 (args := [v, .int .i64 id, .int .i64 at']) func199 rfl rfl rfl rfl ?_
 refine sq <| rg <| ?_
 refine bx hK rfl rfl ?_
 intro b4 w hK
 refine bx hK rfl rfl ?_
 intro b5 w hK
 refine vl asg <| vl (aB rfl) <| nl <| thn <| sq <| rg <| vl mv <| vl (mkf rfl) <| vl (ldO hK Ty.o3 1 rfl rfl rfl) <| vl (ldO hK Ty.o3 0 rfl rfl rfl) <| ?_
 refine bsN [.tmp 10, .tmp 11] hK underlying35 Ty.i3 rfl rfl rfl rfl rfl rfl rfl rfl ?_
 intro b12 w hK
 refine cl call225 rfl (take_c (F := 230) (cap := [.pointer (some ⟨b4, 0, none⟩), .pointer (some ⟨b5, 0, none⟩)]) (xs := [id, at']) (o := closerR (rgl rs) id at') call230 hK rfl hv (fun G' sb v' rs' A w hG hsf hx hr ho hK => by rw [← hr]; exact RingCloser1_c (t := 3) (by rw [hr]; exact hsf) (hx id (by simp)) (hx at' (by simp)) ho (List.mem_cons_of_mem _ (List.mem_cons_of_mem _ (List.mem_cons_self ..))) (List.mem_cons_of_mem _ (List.mem_cons_self ..)) hK)) ?_
 rintro _ w ⟨G1, hG1, hR, hK⟩
 rw [e1] at hR
 obtain ⟨v', qs, rfl, hq, hqr⟩ := hR
 refine vl (ext rfl rfl) <| vl (ext rfl rfl) <| vl asg <| vl (aB rfl) <| nl <| thn <| rt <| p2r (a := _) (b := .bool _) rfl rfl <| ?_
 exact ⟨G1, hG1, ⟨v', qs, rfl, hq, hqr⟩, hK.drop1.drop1⟩
theorem RingNotify1_c {t b4 b5 : Nat} (hsf : RgSafe (rgl rs)) (hid : Pt id) (hat : Pt at') (ho : OR G 84 v rs A) (h4 : (b4, row [.int .i64 id] t) ∈ L) (h5 : (b5, row [.int .i64 at'] t) ∈ L) (hK : K e w G ((sb, row [v] 225) :: (A ++ L))) :
  Ret prog 232 #[.pointer (some ⟨sb, 0, none⟩), .pointer (some ⟨b4, 0, none⟩), .pointer (some ⟨b5, 0, none⟩)] w (StpR e G 84 225 sb L (notifyR (rgl rs) id at')) := by
 refine enter1 (args := [.pointer (some ⟨sb, 0, none⟩), .pointer (some ⟨b4, 0, none⟩), .pointer (some ⟨b5, 0, none⟩)]) func232 rfl rfl rfl rfl ?_
 refine sq <| rg <| ?_
 refine vl (aB rfl) <| nl <| thn <| sq <| rg <| vl mv <| vl (ldC Ty.o3 rfl (row_cell (l := [Value.int .i64 id]) (hK.own _ _ (List.mem_cons_of_mem _ (List.mem_append_right _ h4))))) <| vl (ldC Ty.o3 rfl (row_cell (l := [Value.int .i64 at']) (hK.own _ _ (List.mem_cons_of_mem _ (List.mem_append_right _ h5))))) <| ?_
 refine cl call233 rfl (notifyStep_c hsf hid hat ho hK) ?_
 rintro r w hR
 obtain ⟨bb, rfl⟩ := stp_bool hR
 refine vl (aB rfl) <| nl <| thn <| rt <| p1r (a := .bool _) rfl <| ?_
 exact hR
theorem implRingNotify_c (hK : K e w G L) (hv : RngS G v rs) : Ret prog 200 #[v, .int .i64 id, .int .i64 at'] w (fun r w' => ∃ G', VLe G G' ∧ RgA G' r (tk (rgl rs) (Pt id ∧ Pt at') (notifyR (rgl rs) id at')) ∧ K e w' G' L) := by
 have e1 : (∀ x ∈ [id, at'], Pt x) = (Pt id ∧ Pt at') := propext ⟨fun h => ⟨h id (by simp), h at' (by simp)⟩, fun h => mk2 h⟩
 refine enter2 (args := [v, .int .i64 id, .int .i64 at']) func200 rfl rfl rfl rfl ?_
 refine sq <| rg <| ?_
 refine bx hK rfl rfl ?_
 intro b4 w hK
 refine bx hK rfl rfl ?_
 intro b5 w hK
 refine vl asg <| vl (aB rfl) <| nl <| thn <| sq <| rg <| vl mv <| vl (mkf rfl) <| vl (ldO hK Ty.o3 1 rfl rfl rfl) <| vl (ldO hK Ty.o3 0 rfl rfl rfl) <| ?_
 refine bsN [.tmp 10, .tmp 11] hK underlying35 Ty.i3 rfl rfl rfl rfl rfl rfl rfl rfl ?_
 intro b12 w hK
 refine cl call225 rfl (take_c (F := 232) (cap := [.pointer (some ⟨b4, 0, none⟩), .pointer (some ⟨b5, 0, none⟩)]) (xs := [id, at']) (o := notifyR (rgl rs) id at') call232 hK rfl hv (fun G' sb v' rs' A w hG hsf hx hr ho hK => by rw [← hr]; exact RingNotify1_c (t := 3) (by rw [hr]; exact hsf) (hx id (by simp)) (hx at' (by simp)) ho (List.mem_cons_of_mem _ (List.mem_cons_of_mem _ (List.mem_cons_self ..))) (List.mem_cons_of_mem _ (List.mem_cons_self ..)) hK)) ?_
 rintro _ w ⟨G1, hG1, hR, hK⟩
 rw [e1] at hR
 obtain ⟨v', qs, rfl, hq, hqr⟩ := hR
 refine vl (ext rfl rfl) <| vl (ext rfl rfl) <| vl asg <| vl (aB rfl) <| nl <| thn <| rt <| p2r (a := _) (b := .bool _) rfl rfl <| ?_
 exact ⟨G1, hG1, ⟨v', qs, rfl, hq, hqr⟩, hK.drop1.drop1⟩
end
open Go Go.Ro Tryz
section
variable {e w : World} {G : View} {L A AI AS : Own} {v u m0 m1 : Value} {rs qs : List Rn} {zs : List It} {W W' : Wv} {wd wd' : Wd} {a b c k kd id other key : Int} {i bk o : Nat}
theorem findItem1_c (hK : K e w G L) {x : It} (hx : Pt x.1) (hk : Pt k) : Ret prog 246 #[.agg (ic x).toArray, .int .i64 k] w (fun r w' => (∃ m, r = .int .i64 m ∧ (m < 0 ↔ x.1 < k) ∧ (m = 0 ↔ x.1 = k)) ∧ K e w' G L) := by
 have h1 := hx.1
 have h2 := hx.2
 have h3 := hk.1
 have h4 := hk.2
 refine enter1 (args := [.agg (ic x).toArray, .int .i64 k]) func246 rfl rfl rfl rfl ?_
 refine sq <| rg <| ?_
 refine bx hK rfl rfl ?_
 intro b2 w hK
 refine vl (aI rfl) <| nl <| thn <| sq <| rg <| vl (fa underlying51 rfl Ty.z3 rfl) <| vl (ldO hK Ty.o3 0 rfl rfl rfl) <| vl (mI rfl) <| vl (sb rfl rfl) <| vl (aI rfl) <| nl <| thn <| rt <| p1r (a := .int _ _) rfl <| ?_
 exact ⟨⟨_, rfl, by omega, by omega⟩, hK.drop1⟩
theorem it_pw (h : ItOk zs) : zs.Pairwise (fun a b => a.1 < b.1) := by
 have := h.2.2
 unfold keys at this
 exact (List.pairwise_map (f := fun x : It => x.1) (R := fun a b : Int => a < b)).1 this
theorem it_pt (h : ItOk zs) : ∀ x ∈ zs, Pt x.1 := fun x hx => h.2.1 x.1 (List.mem_map.2 ⟨x, hx, rfl⟩)
theorem findItem_c (hK : K e w G L) (hc : ∀ (j : Nat) u, (wc W)[j]? = some u → cellV G ⟨bk, o + j, none⟩ = some u) (hW : WdS G lc W wd rs) (hit : ItOk wd.items) (hl : wd.items.length ≤ 1000000) (hk : Pt k) :
  Ret prog 214 #[.pointer (some ⟨bk, o, none⟩), .int .i64 k] w (fun r w' => (∃ (i : Nat) (b : Bool), r = .tuple #[.int .i64 (i : Int), .bool b] ∧ BsR (fun x : It => x.1) wd.items k i b) ∧ K e w' G L) := by
 refine enter2 (args := [.pointer (some ⟨bk, o, none⟩), .int .i64 k]) func214 rfl rfl rfl rfl ?_
 refine sq <| rg <| ?_
 refine vl (aI rfl) <| vl (aB rfl) <| nl <| thn <| sq <| rg <| vl mv <| vl (nc rfl) <| vl (fa underlying39 rfl Ty.z34 rfl) <| vl (ldV hK Ty.o34 rfl (hc 3 _ rfl)) <| vl (mI rfl) <| ?_
 refine cl call245 rfl (bsearchI_c (cap := []) (key := fun x : It => x.1) call246 hK hW.items hl (it_pw hit) (fun x hx w hK => findItem1_c hK (it_pt hit x hx) hk)) ?_
 rintro _ w ⟨⟨i, b, rfl, hb⟩, hK⟩
 refine vl (ext rfl rfl) <| vl (ext rfl rfl) <| vl (aI rfl) <| vl (aB rfl) <| nl <| thn <| rt <| p2r (a := .int _ _) (b := .bool _) rfl rfl <| ?_
 exact ⟨⟨i, b, rfl, hb⟩, hK⟩
set_option maxHeartbeats 1000000 in
theorem put_c (h : WdO G lc 51 3 W wd rs AI AS) (hK : K e w G ((bk, row (m0 :: m1 :: wc W) 111) :: (AI ++ (AS ++ L)))) (hit : ItOk wd.items) (hl : wd.items.length ≤ 100000) (hk : Pt k) :
  Ret prog 181 #[.pointer (some ⟨bk, 2, none⟩), .int .i64 k, .int .i64 c] w (fun r w' => r = .tuple #[] ∧ ∃ W' AI', WdO G lc 51 3 W' { wd with items := itf k c false wd.items } rs AI' AS ∧ K e w' G ((bk, row (m0 :: m1 :: wc W') 111) :: (AI' ++ (AS ++ L)))) := by
 refine enter0 (args := [.pointer (some ⟨bk, 2, none⟩), .int .i64 k, .int .i64 c]) func181 rfl rfl rfl rfl ?_
 refine sq <| rg <| ?_
 refine vl mv <| vl (mI rfl) <| ?_
 have hall := h.all hK
 clear hK
 obtain ⟨Gf, hGf, hWf, hcf, hK, hback⟩ := hall
 refine cl call214 rfl (findItem_c hK hcf hWf hit om hk) ?_
 rintro _ w ⟨⟨i, b, rfl, hb⟩, hK⟩
 replace hK := hback _ _ hK
 clear hback hcf hWf hGf
 refine vl mv <| vl (ext rfl rfl) <| vl (ext rfl rfl) <| vl (aI rfl) <| vl (aB rfl) <| nl <| thn <| sq <| rg <| vl (mB rfl) <| nl <| thn <| ?_
 refine cdB rfl (fun hbt => ?_) fun hbt => ?_
 ·subst hbt
  obtain ⟨hi, hkk, he⟩ := itf_put (c := c) (it_pw hit) hb
  have ho : OS 2 51 W.i wd.items.length (wd.items.flatMap ic) AI := h.items.resolve_right fun h => by have := h.1; omega
  refine rg <| ?_
  refine vl mv <| vl (nc rfl) <| vl (fa underlying39 rfl Ty.z34 rfl) <| vl (ldO hK Ty.o34 0 rfl rfl rfl) <| vl (mI rfl) <| vl (mI rfl) <| vl (ixn underlying34 Ty.s51 rfl ho.slw rfl hi) <| vl (fe underlying51 rfl Ty.z3 rfl ho.slw om) <| ?_
  refine osSetC (i := i * 2 + 1) (u := .int .i64 c) (K.mid (A := [_]) (B := AI) hK) ho om Ty.i3 rfl rfl rfl rfl fun A' w ho hK => ?_
  rw [flat_set (c := ic) (sz := 2) (fun _ => rfl) wd.items i 1 wd.items[i] (k, c) (.int .i64 c) (List.getElem?_eq_getElem hi) (by omega) (by rw [← hkk]; rfl)] at ho
  have ho' : OS 2 51 W.i (itf k c false wd.items).length ((itf k c false wd.items).flatMap ic) A' := by rw [he, List.length_set]; exact ho
  refine nl <| p0n <| ?_
  exact ⟨rfl, W, A', ⟨h.now, h.ring, h.rg, h.leases, .inl ho', h.next, h.told, h.since⟩, K.mid (A := A') (B := [_]) hK⟩
 ·have hbf : b = false := by simpa using hbt
  subst hbf
  have he := itf_ins (c := c) (it_pw hit) hb
  have hil := hb.1
  refine rg <| ?_
  refine vl mv <| vl mv <| vl (nc rfl) <| vl (fa underlying39 rfl Ty.z34 rfl) <| vl (ldO hK Ty.o34 0 rfl rfl rfl) <| vl (mI rfl) <| vl (mI rfl) <| vl (mI rfl) <| vl (bd [(0, _), (1, _)] Ty.p51 Ty.i51 rfl ⟨⟨rfl, rfl⟩, ⟨rfl, rfl⟩, trivial⟩ rfl) <| ?_
  refine bsS1 hK underlying34 Ty.i51 rfl rfl rfl rfl rfl rfl ?_
  intro b32 w hK
  replace hK : K e w G ((b32, row (ic (k, c)) 51) :: (bk, row (m0 :: m1 :: wc W) 111) :: (AI ++ (AS ++ L))) := hK
  replace hK : K _ _ _ ((b32, row (ic (k, c)) 51) :: (AI ++ ((bk, row (m0 :: m1 :: wc W) 111) :: (AS ++ L)))) := hK.reo
  refine cl call215 rfl (insertI_c (x := (k, c)) hK h.items rfl (fun _ _ => rfl) hil om) ?_
  rintro v33 w ⟨A2, ho2, hK⟩
  have ho' : OS 2 51 v33 (itf k c false wd.items).length ((itf k c false wd.items).flatMap ic) A2 := by
   rw [he]
   have : (wd.items.take i ++ (k, c) :: wd.items.drop i).length = wd.items.length + 1 := by simp only [List.length_append, List.length_cons, List.length_take, List.length_drop]; omega
   rw [this]; exact ho2
  replace hK := K.mid (A := A2) (B := [_]) hK
  refine vl (nc rfl) <| vl (fa underlying39 rfl Ty.z34 rfl) <| ?_
  refine so hK Ty.i34 rfl 0 rfl rfl rfl ho2.one rfl ?_
  intro w hK
  refine nl <| p0n <| ?_
  exact ⟨rfl, ⟨W.now, W.r, W.l, v33, W.next, W.t, W.s⟩, A2, ⟨h.now, h.ring, h.rg, h.leases, .inl ho', h.next, h.told, h.since⟩, hK⟩
theorem erase1_c {t : Nat} (hK : K e w G L) (hn : (o, row [.int .i64 k] t) ∈ L) : Ret prog 218 #[.int .i64 a, .pointer (some ⟨o, 0, none⟩)] w (fun r w' => r = .bool (decide (a = k)) ∧ K e w' G L) := by
 refine enter1 (args := [.int .i64 a, .pointer (some ⟨o, 0, none⟩)]) func218 rfl rfl rfl rfl ?_
 refine sq <| rg <| ?_
 refine vl (aB rfl) <| nl <| thn <| sq <| rg <| vl (mI rfl) <| vl (ldC Ty.o3 rfl (row_cell (l := [Value.int .i64 k]) (hK.own _ _ hn))) <| vl (eq rfl rfl) <| vl (aB rfl) <| nl <| thn <| rt <| p1r (a := .bool _) rfl <| ?_
 exact ⟨rfl, hK⟩
theorem flt_ne {xs : List Int} {k : Int} : (xs.filter fun x => !decide (x = k)) = xs.filter (fun x => decide (x ≠ k)) := by
 apply List.filter_congr
 intro x _
 by_cases h : x = k <;> simp [h]
set_option maxHeartbeats 1000000 in
theorem erase_c (h : WdO G lc 51 3 W wd rs AI AS) (hK : K e w G ((bk, row (m0 :: m1 :: wc W) 111) :: (AI ++ (AS ++ L)))) (hit : ItOk wd.items) (hl : wd.items.length ≤ 100000) (hsl : wd.since.length ≤ 100000) (hk : Pt k) :
  Ret prog 182 #[.pointer (some ⟨bk, 2, none⟩), .int .i64 k] w (fun r w' => r = .tuple #[] ∧ ∃ W' AI' AS', WdO G lc 51 3 W' { wd with items := itf k c true wd.items, since := wd.since.filter (fun x => decide (x ≠ k)) } rs AI' AS' ∧ K e w' G ((bk, row (m0 :: m1 :: wc W') 111) :: (AI' ++ (AS' ++ L)))) := by
 refine enter0 (args := [.pointer (some ⟨bk, 2, none⟩), .int .i64 k]) func182 rfl rfl rfl rfl ?_
 refine sq <| rg <| ?_
 refine bx hK rfl rfl ?_
 intro b3 w hK
 refine nl <| thn <| sq <| sq <| rg <| vl mv <| vl (ldO hK Ty.o3 0 rfl rfl rfl) <| ?_
 have hK1 : K e w G ((bk, row (m0 :: m1 :: wc W) 111) :: (AI ++ (AS ++ ((b3, row [.int .i64 k] 3) :: L)))) := by
  have hK0 : K e w G ((b3, row [.int .i64 k] 3) :: (bk, row (m0 :: m1 :: wc W) 111) :: (AI ++ (AS ++ L))) := hK
  exact hK0.reo
 have hall := h.all hK1
 clear hK hK1
 obtain ⟨Gf, hGf, hWf, hcf, hK, hback⟩ := hall
 refine cl call214 rfl (findItem_c hK hcf hWf hit om hk) ?_
 rintro _ w ⟨⟨i, b, rfl, hb⟩, hK⟩
 replace hK := hback _ _ hK
 clear hback hcf hWf hGf
 refine vl mv <| vl (ext rfl rfl) <| vl (ext rfl rfl) <| vl (aI rfl) <| vl (aB rfl) <| nl <| thn <| sq <| rg <| vl (mB rfl) <| nl <| thn <| ?_
 refine ct (σ := Value × Own) (fun s => [(0, .pointer (some ⟨bk, 2, none⟩)), (3, .pointer (some ⟨b3, 0, none⟩))]) (fun s w => OSx 2 51 s.1 (itf k c true wd.items).length ((itf k c true wd.items).flatMap ic) s.2 ∧ K e w G ((bk, row (m0 :: m1 :: wc ⟨W.now, W.r, W.l, s.1, W.next, W.t, W.s⟩) 111) :: (s.2 ++ (AS ++ ((b3, row [.int .i64 k] 3) :: L))))) ?_ ?_
 ·refine cdB rfl (fun hbt => ?_) fun hbt => ?_
  ·subst hbt
   obtain ⟨hi, he⟩ := itf_del (c := c) (it_pw hit) hb
   refine rg <| ?_
   refine vl mv <| vl mv <| vl (nc rfl) <| vl (fa underlying39 rfl Ty.z34 rfl) <| vl (ldO hK Ty.o34 0 rfl rfl rfl) <| vl (mI rfl) <| vl (mI rfl) <| vl (ad rfl rfl) <| ?_
   replace hK := K.mid (A := [_]) (B := AI) hK
   refine cl call216 rfl (deleteI_c hK h.items hi om) ?_
   rintro v21 w ⟨A2, ho2, hK⟩
   replace hK := K.mid (A := A2) (B := [_]) hK
   rw [← he] at ho2
   refine vl (nc rfl) <| vl (fa underlying39 rfl Ty.z34 rfl) <| ?_
   refine so hK Ty.i34 rfl 0 rfl rfl rfl ho2.one rfl ?_
   intro w hK
   refine nl <| ctn <| ?_
   exact ⟨(v21, A2), ⟨rfl, rfl, trivial⟩, .inl ho2, hK⟩
  ·have hbf : b = false := by simpa using hbt
   subst hbf
   have he := itf_same (c := c) (it_pw hit) hb
   refine sk <| ctn <| ?_
   exact ⟨(W.i, AI), ⟨rfl, rfl, trivial⟩, by simp only; rw [he]; exact h.items, hK⟩
 ·rintro ⟨vi, A2⟩ g w ⟨hoi, hK⟩
  simp only at hoi hK
  have hos : OSx 1 3 W.s wd.since.length (ints wd.since) AS := by rw [ints_flat]; exact h.since
  refine thn <| rg <| ?_
  refine vl mv <| vl mv <| vl (nc rfl) <| vl (fa underlying39 rfl Ty.z35 rfl) <| vl (ldO hK Ty.o35 0 rfl rfl rfl) <| vl (mkf rfl) <| ?_
  replace hK : K e w G (AS ++ ((bk, row (m0 :: m1 :: wc ⟨W.now, W.r, W.l, vi, W.next, W.t, W.s⟩) 111) :: (A2 ++ ((b3, row [.int .i64 k] 3) :: L)))) := hK.reo
  refine cl call217 rfl (deleteFunc_c (F := 218) (cap := [.pointer (some ⟨b3, 0, none⟩)]) (q := fun x => decide (x = k)) call218 hK hos om (fun G x w hK => erase1_c (t := 3) hK (List.mem_cons_of_mem _ (List.mem_append_right _ (List.mem_cons_self ..))))) ?_
  rintro v30 w ⟨A3, ho3, hK⟩
  rw [flt_ne, ints_flat] at ho3
  replace hK : K e w G ((bk, row (m0 :: m1 :: wc ⟨W.now, W.r, W.l, vi, W.next, W.t, W.s⟩) 111) :: (A3 ++ (A2 ++ ((b3, row [.int .i64 k] 3) :: L)))) := K.mid (A := A3) (B := [_]) hK
  refine vl (nc rfl) <| vl (fa underlying39 rfl Ty.z35 rfl) <| ?_
  refine so hK Ty.i35 rfl 0 rfl rfl rfl ho3.one rfl ?_
  intro w hK
  refine nl <| p0n <| ?_
  replace hK : K e w G ((bk, row (m0 :: m1 :: wc ⟨W.now, W.r, W.l, vi, W.next, W.t, v30⟩) 111) :: (A3 ++ (A2 ++ ((b3, row [.int .i64 k] 3) :: L)))) := hK
  have hK2 : K e w G ((b3, row [.int .i64 k] 3) :: (bk, row (m0 :: m1 :: wc ⟨W.now, W.r, W.l, vi, W.next, W.t, v30⟩) 111) :: (A2 ++ (A3 ++ L))) := hK.reo
  exact ⟨rfl, ⟨W.now, W.r, W.l, vi, W.next, W.t, v30⟩, A2, A3, ⟨h.now, h.ring, h.rg, h.leases, hoi, h.next, h.told, ho3⟩, hK2.drop1⟩
theorem owns_c (hK : K e w G L) (hc : ∀ (j : Nat) u, (wc W)[j]? = some u → cellV G ⟨bk, o + j, none⟩ = some u) (hW : WdS G lc W wd rs) (hok : LsOk wd.leases) (hrg : RgOk wd.ring) :
  Ret prog 176 #[.pointer (some ⟨bk, o, none⟩), .int .i64 id, .int .i64 key] w (fun r w' => r = .bool (dec (id ∈ ids wd.ring ∧ Pt key ∧ own wd key = id)) ∧ K e w' G L) := by
 have e2 := hW.rg
 refine enter1 (args := [.pointer (some ⟨bk, o, none⟩), .int .i64 id, .int .i64 key]) func176 rfl rfl rfl rfl ?_
 refine sq <| rg <| ?_
 refine vl (aB rfl) <| nl <| thn <| sq <| rg <| vl mv <| vl (mI rfl) <| ?_
 refine cl call135 rfl (live_c hK hc hW.ring) ?_
 rintro _ w ⟨rfl, hK⟩
 refine vl (mB rfl) <| ?_
 refine splP (t := 10) rfl (fun h1 => ?_) fun h1 => ?_
 ·have h0 : 0 ≤ id := by
   rw [e2] at h1
   obtain ⟨x, hx, rfl⟩ := List.mem_map.1 h1
   exact (hrg.2.1 x hx).1.1
  refine gy rfl <| vl mv <| gy rfl <| vl (mI rfl) <| gy rfl <| ?_
  refine cl call81 rfl (ownerA_c hK hc hW hok) ?_
  rintro _ w ⟨n, rfl, hn, hn2, hK⟩
  refine gy rfl <| vl (mI rfl) <| gy rfl <| vl (eq rfl rfl) <| vl (pk rfl) <| vl (aB rfl) <| nl <| thn <| rt <| p1r (a := .bool _) rfl <| ?_
  refine ⟨congrArg Value.bool ?_, hK⟩
  refine (dec_dec (p := n = id)).symm.trans (dec_congr ⟨fun h => ?_, fun h => ?_⟩)
  ·have hp : Pt key := Classical.byContradiction fun hp => by have := hn2 hp; omega
   exact ⟨by rw [← e2]; exact h1, hp, (hn hp).symm.trans h⟩
  ·rw [hn h.2.1]; exact h.2.2
 ·refine gn rfl <| gn rfl <| gn rfl <| gn rfl <| gn rfl <| vl (pk rfl) <| vl (aB rfl) <| nl <| thn <| rt <| p1r (a := .bool _) rfl <| ?_
  exact ⟨by rw [dec_f fun h => h1 (by rw [e2]; exact h.1)], hK⟩
end
end Go.Proofs.YtbiihblpgfgaoabGreatDoor
