/- The steps of the program's rings: what they give back lies in new memory. Conditions: those that each row states. -/
import Derived.Test.YtmgggljicpmndaaGreatDoorRv
import Derived.Test.YtmgggljicpmndaaGreatDoorXr3
namespace Go.Proofs.YtmgggljicpmndaaGreatDoor
open Go Go.Ro Tryz
section
variable {e w : World} {G G0 : View} {L A : Own} {v u : Value} {xs ys ks : List Int} {ls : List Ls} {rs qs : List Rn} {a b k id other at' : Int} {i j sb bk : Nat}
theorem RingJoin1F_c {t b4 b5 : Nat} (hsf : RgSafe (rgl rs)) (hid : Pt id) (hat : Pt at') (hG0 : VLe G0 G) (hnf : RnF 3 G0 G rs) (ho : OR G 98 v rs A) (h4 : (b4, row [.int .i64 id] t) ∈ L) (h5 : (b5, row [.int .i64 at'] t) ∈ L) (hK : K e w G ((sb, row [v] 206) :: (A ++ L))) :
  Ret prog 203 #[.pointer (some ⟨sb, 0, none⟩), .pointer (some ⟨b4, 0, none⟩), .pointer (some ⟨b5, 0, none⟩)] w (StpF e G0 G 98 3 206 sb L (joinR (rgl rs) id at')) := by
 refine enter1 (args := [.pointer (some ⟨sb, 0, none⟩), .pointer (some ⟨b4, 0, none⟩), .pointer (some ⟨b5, 0, none⟩)]) func203 rfl rfl rfl rfl ?_
 refine sq <| rg <| ?_
 refine vl (aB rfl) <| nl <| thn <| sq <| rg <| vl mv <| vl (ldC Ty.o3 rfl (row_cell (l := [Value.int .i64 id]) (hK.own _ _ (List.mem_cons_of_mem _ (List.mem_append_right _ h4))))) <| vl (ldC Ty.o3 rfl (row_cell (l := [Value.int .i64 at']) (hK.own _ _ (List.mem_cons_of_mem _ (List.mem_append_right _ h5))))) <| ?_
 refine cl call204 rfl (joinStepF_c hsf hid hat hG0 hnf ho hK) ?_
 rintro r w hR
 obtain ⟨bb, rfl⟩ := stpf_bool hR
 refine vl (aB rfl) <| nl <| thn <| rt <| p1r (a := .bool _) rfl <| ?_
 exact hR
theorem implRingJoinF_c (hK : K e w G L) (hv : RngS G v rs) : Ret prog 169 #[v, .int .i64 id, .int .i64 at'] w (fun r w' => ∃ G', VLe G G' ∧ RgF 98 3 G G' r (tk (rgl rs) (Pt id ∧ Pt at') (joinR (rgl rs) id at')) ∧ K e w' G' L) := by
 have e1 : (∀ x ∈ [id, at'], Pt x) = (Pt id ∧ Pt at') := propext ⟨fun h => ⟨h id (by simp), h at' (by simp)⟩, fun h => mk2 h⟩
 refine enter2 (args := [v, .int .i64 id, .int .i64 at']) func169 rfl rfl rfl rfl ?_
 refine sq <| rg <| ?_
 refine bx hK rfl rfl ?_
 intro b4 w hK
 refine bx hK rfl rfl ?_
 intro b5 w hK
 refine vl asg <| vl (aB rfl) <| nl <| thn <| sq <| rg <| vl mv <| vl (mkf rfl) <| vl (ldO hK Ty.o3 1 rfl rfl rfl) <| vl (ldO hK Ty.o3 0 rfl rfl rfl) <| ?_
 refine bsN [.tmp 10, .tmp 11] hK underlying22 Ty.i3 rfl rfl rfl rfl rfl rfl rfl rfl ?_
 intro b12 w hK
 refine cl call202 rfl (takeF_c (F := 203) (cap := [.pointer (some ⟨b4, 0, none⟩), .pointer (some ⟨b5, 0, none⟩)]) (xs := [id, at']) (o := joinR (rgl rs) id at') call203 hK rfl hv (fun G' sb v' rs' A w hG hsf hx hr hnf ho hK => by rw [← hr]; exact RingJoin1F_c (t := 3) (by rw [hr]; exact hsf) (hx id (by simp)) (hx at' (by simp)) hG hnf ho (List.mem_cons_of_mem _ (List.mem_cons_of_mem _ (List.mem_cons_self ..))) (List.mem_cons_of_mem _ (List.mem_cons_self ..)) hK)) ?_
 rintro _ w ⟨G1, hG1, hR, hK⟩
 rw [e1] at hR
 obtain ⟨v', qs, rfl, hq, hqr, hqn⟩ := hR
 refine vl (ext rfl rfl) <| vl (ext rfl rfl) <| vl asg <| vl (aB rfl) <| nl <| thn <| rt <| p2r (a := _) (b := .bool _) rfl rfl <| ?_
 exact ⟨G1, hG1, ⟨v', qs, rfl, hq, hqr, hqn⟩, hK.drop1.drop1⟩
theorem RingFail1F_c {t b3 : Nat} (hsf : RgSafe (rgl rs)) (hG0 : VLe G0 G) (hnf : RnF 3 G0 G rs) (ho : OR G 98 v rs A) (h3 : (b3, row [.int .i64 id] t) ∈ L) (hK : K e w G ((sb, row [v] 206) :: (A ++ L))) :
  Ret prog 205 #[.pointer (some ⟨sb, 0, none⟩), .pointer (some ⟨b3, 0, none⟩)] w (StpF e G0 G 98 3 206 sb L (failR (rgl rs) id)) := by
 refine enter1 (args := [.pointer (some ⟨sb, 0, none⟩), .pointer (some ⟨b3, 0, none⟩)]) func205 rfl rfl rfl rfl ?_
 refine sq <| rg <| ?_
 refine vl (aB rfl) <| nl <| thn <| sq <| rg <| vl mv <| vl (ldC Ty.o3 rfl (row_cell (l := [Value.int .i64 id]) (hK.own _ _ (List.mem_cons_of_mem _ (List.mem_append_right _ h3))))) <| ?_
 refine cl call206 rfl (failStepF_c hsf hG0 hnf ho hK) ?_
 rintro r w hR
 obtain ⟨bb, rfl⟩ := stpf_bool hR
 refine vl (aB rfl) <| nl <| thn <| rt <| p1r (a := .bool _) rfl <| ?_
 exact hR
theorem implRingFailF_c (hK : K e w G L) (hv : RngS G v rs) : Ret prog 170 #[v, .int .i64 id] w (fun r w' => ∃ G', VLe G G' ∧ RgF 98 3 G G' r (tk (rgl rs) (Pt id) (failR (rgl rs) id)) ∧ K e w' G' L) := by
 have e1 : (∀ x ∈ [id], Pt x) = Pt id := propext ⟨fun h => h id (by simp), fun h x hx => by obtain rfl := List.mem_singleton.1 hx; exact h⟩
 refine enter2 (args := [v, .int .i64 id]) func170 rfl rfl rfl rfl ?_
 refine sq <| rg <| ?_
 refine bx hK rfl rfl ?_
 intro b3 w hK
 refine vl asg <| vl (aB rfl) <| nl <| thn <| sq <| rg <| vl mv <| vl (mkf rfl) <| vl (ldO hK Ty.o3 0 rfl rfl rfl) <| ?_
 refine bsN [.tmp 8] hK underlying22 Ty.i3 rfl rfl rfl rfl rfl rfl rfl rfl ?_
 intro b9 w hK
 refine cl call202 rfl (takeF_c (F := 205) (cap := [.pointer (some ⟨b3, 0, none⟩)]) (xs := [id]) (o := failR (rgl rs) id) call205 hK rfl hv (fun G' sb v' rs' A w hG hsf hx hr hnf ho hK => by rw [← hr]; exact RingFail1F_c (t := 3) (by rw [hr]; exact hsf) hG hnf ho (List.mem_cons_of_mem _ (List.mem_cons_self ..)) hK)) ?_
 rintro _ w ⟨G1, hG1, hR, hK⟩
 rw [e1] at hR
 obtain ⟨v', qs, rfl, hq, hqr, hqn⟩ := hR
 refine vl (ext rfl rfl) <| vl (ext rfl rfl) <| vl asg <| vl (aB rfl) <| nl <| thn <| rt <| p2r (a := _) (b := .bool _) rfl rfl <| ?_
 exact ⟨G1, hG1, ⟨v', qs, rfl, hq, hqr, hqn⟩, hK.drop1⟩
theorem RingDrop1F_c {t b3 : Nat} (hsf : RgSafe (rgl rs)) (hG0 : VLe G0 G) (hnf : RnF 3 G0 G rs) (ho : OR G 98 v rs A) (h3 : (b3, row [.int .i64 id] t) ∈ L) (hK : K e w G ((sb, row [v] 206) :: (A ++ L))) :
  Ret prog 207 #[.pointer (some ⟨sb, 0, none⟩), .pointer (some ⟨b3, 0, none⟩)] w (StpF e G0 G 98 3 206 sb L (dropR (rgl rs) id)) := by
 refine enter1 (args := [.pointer (some ⟨sb, 0, none⟩), .pointer (some ⟨b3, 0, none⟩)]) func207 rfl rfl rfl rfl ?_
 refine sq <| rg <| ?_
 refine vl (aB rfl) <| nl <| thn <| sq <| rg <| vl mv <| vl (ldC Ty.o3 rfl (row_cell (l := [Value.int .i64 id]) (hK.own _ _ (List.mem_cons_of_mem _ (List.mem_append_right _ h3))))) <| ?_
 refine cl call208 rfl (dropStepF_c hsf hG0 hnf ho hK) ?_
 rintro r w hR
 obtain ⟨bb, rfl⟩ := stpf_bool hR
 refine vl (aB rfl) <| nl <| thn <| rt <| p1r (a := .bool _) rfl <| ?_
 exact hR
theorem implRingDropF_c (hK : K e w G L) (hv : RngS G v rs) : Ret prog 171 #[v, .int .i64 id] w (fun r w' => ∃ G', VLe G G' ∧ RgF 98 3 G G' r (tk (rgl rs) (Pt id) (dropR (rgl rs) id)) ∧ K e w' G' L) := by
 have e1 : (∀ x ∈ [id], Pt x) = Pt id := propext ⟨fun h => h id (by simp), fun h x hx => by obtain rfl := List.mem_singleton.1 hx; exact h⟩
 refine enter2 (args := [v, .int .i64 id]) func171 rfl rfl rfl rfl ?_
 refine sq <| rg <| ?_
 refine bx hK rfl rfl ?_
 intro b3 w hK
 refine vl asg <| vl (aB rfl) <| nl <| thn <| sq <| rg <| vl mv <| vl (mkf rfl) <| vl (ldO hK Ty.o3 0 rfl rfl rfl) <| ?_
 refine bsN [.tmp 8] hK underlying22 Ty.i3 rfl rfl rfl rfl rfl rfl rfl rfl ?_
 intro b9 w hK
 refine cl call202 rfl (takeF_c (F := 207) (cap := [.pointer (some ⟨b3, 0, none⟩)]) (xs := [id]) (o := dropR (rgl rs) id) call207 hK rfl hv (fun G' sb v' rs' A w hG hsf hx hr hnf ho hK => by rw [← hr]; exact RingDrop1F_c (t := 3) (by rw [hr]; exact hsf) hG hnf ho (List.mem_cons_of_mem _ (List.mem_cons_self ..)) hK)) ?_
 rintro _ w ⟨G1, hG1, hR, hK⟩
 rw [e1] at hR
 obtain ⟨v', qs, rfl, hq, hqr, hqn⟩ := hR
 refine vl (ext rfl rfl) <| vl (ext rfl rfl) <| vl asg <| vl (aB rfl) <| nl <| thn <| rt <| p2r (a := _) (b := .bool _) rfl rfl <| ?_
 exact ⟨G1, hG1, ⟨v', qs, rfl, hq, hqr, hqn⟩, hK.drop1⟩
theorem RingAdopt1F_c {t b3 : Nat} (hsf : RgSafe (rgl rs)) (hG0 : VLe G0 G) (hnf : RnF 3 G0 G rs) (ho : OR G 98 v rs A) (h3 : (b3, row [.int .i64 id] t) ∈ L) (hK : K e w G ((sb, row [v] 206) :: (A ++ L))) :
  Ret prog 209 #[.pointer (some ⟨sb, 0, none⟩), .pointer (some ⟨b3, 0, none⟩)] w (StpF e G0 G 98 3 206 sb L (adoptR (rgl rs) id)) := by
 refine enter1 (args := [.pointer (some ⟨sb, 0, none⟩), .pointer (some ⟨b3, 0, none⟩)]) func209 rfl rfl rfl rfl ?_
 refine sq <| rg <| ?_
 refine vl (aB rfl) <| nl <| thn <| sq <| rg <| vl mv <| vl (ldC Ty.o3 rfl (row_cell (l := [Value.int .i64 id]) (hK.own _ _ (List.mem_cons_of_mem _ (List.mem_append_right _ h3))))) <| ?_
 refine cl call210 rfl (adoptStepF_c hsf hG0 hnf ho hK) ?_
 rintro r w hR
 obtain ⟨bb, rfl⟩ := stpf_bool hR
 refine vl (aB rfl) <| nl <| thn <| rt <| p1r (a := .bool _) rfl <| ?_
 exact hR
theorem implRingAdoptF_c (hK : K e w G L) (hv : RngS G v rs) : Ret prog 172 #[v, .int .i64 id] w (fun r w' => ∃ G', VLe G G' ∧ RgF 98 3 G G' r (tk (rgl rs) (Pt id) (adoptR (rgl rs) id)) ∧ K e w' G' L) := by
 have e1 : (∀ x ∈ [id], Pt x) = Pt id := propext ⟨fun h => h id (by simp), fun h x hx => by obtain rfl := List.mem_singleton.1 hx; exact h⟩
 refine enter2 (args := [v, .int .i64 id]) func172 rfl rfl rfl rfl ?_
 refine sq <| rg <| ?_
 refine bx hK rfl rfl ?_
 intro b3 w hK
 refine vl asg <| vl (aB rfl) <| nl <| thn <| sq <| rg <| vl mv <| vl (mkf rfl) <| vl (ldO hK Ty.o3 0 rfl rfl rfl) <| ?_
 refine bsN [.tmp 8] hK underlying22 Ty.i3 rfl rfl rfl rfl rfl rfl rfl rfl ?_
 intro b9 w hK
 refine cl call202 rfl (takeF_c (F := 209) (cap := [.pointer (some ⟨b3, 0, none⟩)]) (xs := [id]) (o := adoptR (rgl rs) id) call209 hK rfl hv (fun G' sb v' rs' A w hG hsf hx hr hnf ho hK => by rw [← hr]; exact RingAdopt1F_c (t := 3) (by rw [hr]; exact hsf) hG hnf ho (List.mem_cons_of_mem _ (List.mem_cons_self ..)) hK)) ?_
 rintro _ w ⟨G1, hG1, hR, hK⟩
 rw [e1] at hR
 obtain ⟨v', qs, rfl, hq, hqr, hqn⟩ := hR
 refine vl (ext rfl rfl) <| vl (ext rfl rfl) <| vl asg <| vl (aB rfl) <| nl <| thn <| rt <| p2r (a := _) (b := .bool _) rfl rfl <| ?_
 exact ⟨G1, hG1, ⟨v', qs, rfl, hq, hqr, hqn⟩, hK.drop1⟩
theorem RingCloser1F_c {t b4 b5 : Nat} (hsf : RgSafe (rgl rs)) (hid : Pt id) (hat : Pt at') (hG0 : VLe G0 G) (hnf : RnF 3 G0 G rs) (ho : OR G 98 v rs A) (h4 : (b4, row [.int .i64 id] t) ∈ L) (h5 : (b5, row [.int .i64 at'] t) ∈ L) (hK : K e w G ((sb, row [v] 206) :: (A ++ L))) :
  Ret prog 211 #[.pointer (some ⟨sb, 0, none⟩), .pointer (some ⟨b4, 0, none⟩), .pointer (some ⟨b5, 0, none⟩)] w (StpF e G0 G 98 3 206 sb L (closerR (rgl rs) id at')) := by
 refine enter1 (args := [.pointer (some ⟨sb, 0, none⟩), .pointer (some ⟨b4, 0, none⟩), .pointer (some ⟨b5, 0, none⟩)]) func211 rfl rfl rfl rfl ?_
 refine sq <| rg <| ?_
 refine vl (aB rfl) <| nl <| thn <| sq <| rg <| vl mv <| vl (ldC Ty.o3 rfl (row_cell (l := [Value.int .i64 id]) (hK.own _ _ (List.mem_cons_of_mem _ (List.mem_append_right _ h4))))) <| vl (ldC Ty.o3 rfl (row_cell (l := [Value.int .i64 at']) (hK.own _ _ (List.mem_cons_of_mem _ (List.mem_append_right _ h5))))) <| ?_
 refine cl call212 rfl (closerStepF_c hsf hid hat hG0 hnf ho hK) ?_
 rintro r w hR
 obtain ⟨bb, rfl⟩ := stpf_bool hR
 refine vl (aB rfl) <| nl <| thn <| rt <| p1r (a := .bool _) rfl <| ?_
 exact hR
theorem implRingCloserF_c (hK : K e w G L) (hv : RngS G v rs) : Ret prog 173 #[v, .int .i64 id, .int .i64 at'] w (fun r w' => ∃ G', VLe G G' ∧ RgF 98 3 G G' r (tk (rgl rs) (Pt id ∧ Pt at') (closerR (rgl rs) id at')) ∧ K e w' G' L) := by
 have e1 : (∀ x ∈ [id, at'], Pt x) = (Pt id ∧ Pt at') := propext ⟨fun h => ⟨h id (by simp), h at' (by simp)⟩, fun h => mk2 h⟩
 refine enter2 (args := [v, .int .i64 id, .int .i64 at']) func173 rfl rfl rfl rfl ?_
 refine sq <| rg <| ?_
 refine bx hK rfl rfl ?_
 intro b4 w hK
 refine bx hK rfl rfl ?_
 intro b5 w hK
 refine vl asg <| vl (aB rfl) <| nl <| thn <| sq <| rg <| vl mv <| vl (mkf rfl) <| vl (ldO hK Ty.o3 1 rfl rfl rfl) <| vl (ldO hK Ty.o3 0 rfl rfl rfl) <| ?_
 refine bsN [.tmp 10, .tmp 11] hK underlying22 Ty.i3 rfl rfl rfl rfl rfl rfl rfl rfl ?_
 intro b12 w hK
 refine cl call202 rfl (takeF_c (F := 211) (cap := [.pointer (some ⟨b4, 0, none⟩), .pointer (some ⟨b5, 0, none⟩)]) (xs := [id, at']) (o := closerR (rgl rs) id at') call211 hK rfl hv (fun G' sb v' rs' A w hG hsf hx hr hnf ho hK => by rw [← hr]; exact RingCloser1F_c (t := 3) (by rw [hr]; exact hsf) (hx id (by simp)) (hx at' (by simp)) hG hnf ho (List.mem_cons_of_mem _ (List.mem_cons_of_mem _ (List.mem_cons_self ..))) (List.mem_cons_of_mem _ (List.mem_cons_self ..)) hK)) ?_
 rintro _ w ⟨G1, hG1, hR, hK⟩
 rw [e1] at hR
 obtain ⟨v', qs, rfl, hq, hqr, hqn⟩ := hR
 refine vl (ext rfl rfl) <| vl (ext rfl rfl) <| vl asg <| vl (aB rfl) <| nl <| thn <| rt <| p2r (a := _) (b := .bool _) rfl rfl <| ?_
 exact ⟨G1, hG1, ⟨v', qs, rfl, hq, hqr, hqn⟩, hK.drop1.drop1⟩
theorem RingNotify1F_c {t b4 b5 : Nat} (hsf : RgSafe (rgl rs)) (hid : Pt id) (hat : Pt at') (hG0 : VLe G0 G) (hnf : RnF 3 G0 G rs) (ho : OR G 98 v rs A) (h4 : (b4, row [.int .i64 id] t) ∈ L) (h5 : (b5, row [.int .i64 at'] t) ∈ L) (hK : K e w G ((sb, row [v] 206) :: (A ++ L))) :
  Ret prog 213 #[.pointer (some ⟨sb, 0, none⟩), .pointer (some ⟨b4, 0, none⟩), .pointer (some ⟨b5, 0, none⟩)] w (StpF e G0 G 98 3 206 sb L (notifyR (rgl rs) id at')) := by
 refine enter1 (args := [.pointer (some ⟨sb, 0, none⟩), .pointer (some ⟨b4, 0, none⟩), .pointer (some ⟨b5, 0, none⟩)]) func213 rfl rfl rfl rfl ?_
 refine sq <| rg <| ?_
 refine vl (aB rfl) <| nl <| thn <| sq <| rg <| vl mv <| vl (ldC Ty.o3 rfl (row_cell (l := [Value.int .i64 id]) (hK.own _ _ (List.mem_cons_of_mem _ (List.mem_append_right _ h4))))) <| vl (ldC Ty.o3 rfl (row_cell (l := [Value.int .i64 at']) (hK.own _ _ (List.mem_cons_of_mem _ (List.mem_append_right _ h5))))) <| ?_
 refine cl call214 rfl (notifyStepF_c hsf hid hat hG0 hnf ho hK) ?_
 rintro r w hR
 obtain ⟨bb, rfl⟩ := stpf_bool hR
 refine vl (aB rfl) <| nl <| thn <| rt <| p1r (a := .bool _) rfl <| ?_
 exact hR
theorem implRingNotifyF_c (hK : K e w G L) (hv : RngS G v rs) : Ret prog 174 #[v, .int .i64 id, .int .i64 at'] w (fun r w' => ∃ G', VLe G G' ∧ RgF 98 3 G G' r (tk (rgl rs) (Pt id ∧ Pt at') (notifyR (rgl rs) id at')) ∧ K e w' G' L) := by
 have e1 : (∀ x ∈ [id, at'], Pt x) = (Pt id ∧ Pt at') := propext ⟨fun h => ⟨h id (by simp), h at' (by simp)⟩, fun h => mk2 h⟩
 refine enter2 (args := [v, .int .i64 id, .int .i64 at']) func174 rfl rfl rfl rfl ?_
 refine sq <| rg <| ?_
 refine bx hK rfl rfl ?_
 intro b4 w hK
 refine bx hK rfl rfl ?_
 intro b5 w hK
 refine vl asg <| vl (aB rfl) <| nl <| thn <| sq <| rg <| vl mv <| vl (mkf rfl) <| vl (ldO hK Ty.o3 1 rfl rfl rfl) <| vl (ldO hK Ty.o3 0 rfl rfl rfl) <| ?_
 refine bsN [.tmp 10, .tmp 11] hK underlying22 Ty.i3 rfl rfl rfl rfl rfl rfl rfl rfl ?_
 intro b12 w hK
 refine cl call202 rfl (takeF_c (F := 213) (cap := [.pointer (some ⟨b4, 0, none⟩), .pointer (some ⟨b5, 0, none⟩)]) (xs := [id, at']) (o := notifyR (rgl rs) id at') call213 hK rfl hv (fun G' sb v' rs' A w hG hsf hx hr hnf ho hK => by rw [← hr]; exact RingNotify1F_c (t := 3) (by rw [hr]; exact hsf) (hx id (by simp)) (hx at' (by simp)) hG hnf ho (List.mem_cons_of_mem _ (List.mem_cons_of_mem _ (List.mem_cons_self ..))) (List.mem_cons_of_mem _ (List.mem_cons_self ..)) hK)) ?_
 rintro _ w ⟨G1, hG1, hR, hK⟩
 rw [e1] at hR
 obtain ⟨v', qs, rfl, hq, hqr, hqn⟩ := hR
 refine vl (ext rfl rfl) <| vl (ext rfl rfl) <| vl asg <| vl (aB rfl) <| nl <| thn <| rt <| p2r (a := _) (b := .bool _) rfl rfl <| ?_
 exact ⟨G1, hG1, ⟨v', qs, rfl, hq, hqr, hqn⟩, hK.drop1.drop1⟩
end
end Go.Proofs.YtmgggljicpmndaaGreatDoor
