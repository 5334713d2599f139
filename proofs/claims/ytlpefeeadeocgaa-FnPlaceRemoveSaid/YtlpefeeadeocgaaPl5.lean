/- The law of a node that is removed from a table of tokens. Conditions: those that each row states. -/
import Derived.Test.YtlpefeeadeocgaaPl4
namespace Go.Proofs.Ytlpefeeadeocgaa
open Go Go.Ro

section
variable {e w : World} {G : View} {L A : Own} {v u cva cvb : Value} {code more xs ys ns ws : List Int} {ts us : List (Int × Int)} {a b k n wt p key : Int} {i j o rb b1 b2 : Nat}

theorem sameTokens_t (hK : K e w G L) (hv : TokS G v ts) (hu : TokS G u ts) : Ret Try.prog 7 #[v, u] w (fun r w' => r = .bool true ∧ K e w' G L) :=
 (sameTokens_c hK hv hu).mono fun _ _ ⟨h1, h2⟩ => ⟨by rw [h1, dec_t rfl], h2⟩

set_option maxHeartbeats 1000000 in
theorem FnPlaceRemove_c (hK : K e w G L) (hc : BytS G cva code) (hm : BytS G cvb more) : Ret Try.prog 3 #[cva, cvb] w (fun r w' => r = .bool true ∧ ∃ G' L', K e w' G' L' ∧ VLe G G') := by
 have hle := hc.le
 have hle2 := hm.le
 refine enter1 (args := [cva, cvb]) Try.func3 rfl rfl rfl rfl ?_
 refine sq <| rg <| ?_
 refine vl (aB rfl) <| nl <| thn <| sq <| sq <| rg <| vl mv <| vl (ln Try.underlying22 rfl hc.len) <| vl (gt rfl rfl) <| vl (mB rfl) <| ?_
 refine splP (t := 16) rfl (fun h1 => ?_) (fun h1 => ?_)
 ·refine gn rfl <| gn rfl <| gn rfl <| vl (pk rfl) <| nl <| thn <| ?_
  refine cdt rfl ?_
  refine sq <| rg <| ?_
  refine vl (aB rfl) <| nl <| thn <| rt <| thr <| p1r (a := .bool _) rfl <| ?_
  exact ⟨rfl, _, _, hK, VLe.refl _⟩
 ·refine gy rfl <| vl mv <| gy rfl <| vl (ln Try.underlying22 rfl hm.len) <| gy rfl <| vl (gt rfl rfl) <| vl (pk rfl) <| nl <| thn <| ?_
  refine cdP rfl (fun h2 => ?_) (fun h2 => ?_)
  ·refine sq <| rg <| ?_
   refine vl (aB rfl) <| nl <| thn <| rt <| thr <| p1r (a := .bool _) rfl <| ?_
   exact ⟨rfl, _, _, hK, VLe.refl _⟩
  ·refine sk <| thn <| sq <| rg <| ?_
   refine vl mv <| ?_
   refine cl Try.call4 rfl (DrawPlaceTable_c hK hc) ?_
   rintro _ w ⟨G1, nv, wv, ns, ws, rfl, hG1, hn, hw, hl1, hl2, hK⟩
   refine vl mv <| vl (ext rfl rfl) <| vl (ext rfl rfl) <| vl asg <| vl asg <| nl <| thn <| sq <| rg <| vl mv <| vl mv <| ?_
   refine cl Try.call5 rfl (implPlaceTable_c hK hn hw) ?_
   rintro tv w ⟨G2, hG2, ht, hK⟩
   refine vl asg <| nl <| thn <| sq <| rg <| vl mv <| vl mv <| ?_
   refine cl Try.call6 rfl (specPlaceTable_c hK (hn.mono hG2) (hw.mono hG2)) ?_
   rintro uv w ⟨G3, hG3, hu, hK⟩
   have hG13 := hG2.trans hG3
   replace ht := ht.mono hG3
   replace hn := hn.mono hG13
   replace hw := hw.mono hG13
   replace hG1 := hG1.trans hG13
   clear hG13 hG2 hG3
   refine vl asg <| nl <| thn <| sq <| sq <| rg <| vl mv <| vl mv <| ?_
   refine cl Try.call7 rfl (sameTokens_t hK ht hu) ?_
   rintro _ w ⟨rfl, hK⟩
   refine vl (ntB rfl) <| vl (mB rfl) <| gy rfl <| vl mv <| gy rfl <| vl (ln Try.underlying26 rfl ht.len) <| gy rfl <| vl (eq rfl rfl) <| vl (pk rfl) <| vl (mB rfl) <| ?_
   refine splP (t := 41) rfl (fun h3 => ?_) (fun h3 => ?_)
   ·refine gn rfl <| gn rfl <| gn rfl <| vl (pk rfl) <| nl <| thn <| ?_
    refine cdt rfl ?_
    refine sq <| rg <| ?_
    refine vl mv <| vl mv <| ?_
    refine cl Try.call7 rfl (sameTokens_t hK ht hu) ?_
    rintro _ w ⟨rfl, hK⟩
    refine vl (aB rfl) <| nl <| thn <| rt <| thr <| p1r (a := .bool _) rfl <| ?_
    exact ⟨rfl, _, _, hK, hG1⟩
   ·refine gy rfl <| vl mv <| gy rfl <| vl (ln Try.underlying23 rfl hn.len) <| gy rfl <| vl (lt rfl rfl) <| vl (pk rfl) <| nl <| thn <| ?_
    refine cdP rfl (fun h4 => ?_) (fun h4 => ?_)
    ·refine sq <| rg <| ?_
     refine vl mv <| vl mv <| ?_
     refine cl Try.call7 rfl (sameTokens_t hK ht hu) ?_
     rintro _ w ⟨rfl, hK⟩
     refine vl (aB rfl) <| nl <| thn <| rt <| thr <| p1r (a := .bool _) rfl <| ?_
     exact ⟨rfl, _, _, hK, hG1⟩
    ·have ho : PT ns ws ≠ [] := fun h => h3 (by rw [h]; rfl)
     have h2n : 2 ≤ ns.length := by omega
     have hex : ∃ k : Nat, k < ns.length ∧ ((more.length : Int) % (ns.length : Int)) = (k : Int) := ⟨more.length % ns.length, Nat.mod_lt _ (by omega), (Int.natCast_emod ..).symm⟩
     obtain ⟨k, hk, hke⟩ := hex
     have hpr := pt_remove ho h2n hk
     obtain ⟨hT, hT2, hpt, hmv⟩ := hpr
     have hwl := (PT.tblOk ho).2.2.1
     refine sk <| thn <| sq <| rg <| ?_
     refine vl mv <| vl (ln Try.underlying22 rfl hm.len) <| vl mv <| vl (ln Try.underlying23 rfl hn.len) <| vl (rmk rfl rfl om om hke) <| vl (aI rfl) <| nl <| thn <| sq <| rg <| vl mv <| vl (mI rfl) <| ?_
     refine cl Try.call8 rfl (without_c hK hn hk om) ?_
     rintro nv2 w ⟨G2, hG2, hn2, hK⟩
     refine vl mv <| vl (mI rfl) <| ?_
     refine cl Try.call8 rfl (without_c hK (hw.mono hG2) om om) ?_
     rintro wv2 w ⟨G3, hG3, hw2, hK⟩
     refine cl Try.call5 rfl (implPlaceTable_c hK (hn2.mono hG3) hw2) ?_
     rintro xv w ⟨G4, hG4, hx, hK⟩
     have hG24 := (hG2.trans hG3).trans hG4
     replace ht := ht.mono hG24
     replace hn := hn.mono hG24
     replace hG1 := hG1.trans hG24
     clear hG24 hG2 hG3 hG4
     refine vl asg <| nl <| thn <| sq <| rg <| vl mv <| vl mv <| ?_
     refine cl Try.call9 rfl (PlaceMoved_c hK ht hx hT hT2) ?_
     rintro gmv w ⟨G5, hG5, hmm, hK⟩
     replace ht := ht.mono hG5
     replace hn := hn.mono hG5
     replace hx := hx.mono hG5
     replace hG1 := hG1.trans hG5
     rw [moved_len hmv] at hmm
     have hmem : ∀ y ∈ ps64.filter (fun key => decide (ownI (PT ns ws) key = ns[k])), Pt y ∧ ownI (PT ns ws) y = ns[k] := fun y hy => by
      have h1 := List.mem_filter.1 hy
      have h2 := ps64_mem.1 h1.1
      exact ⟨⟨h2.1, by omega⟩, by simpa using h1.2⟩
     have hml : (ps64.filter (fun key => decide (ownI (PT ns ws) key = ns[k]))).length ≤ 64 := by
      have h1 := psf_len (fun key => decide (ownI (PT ns ws) key = ns[k])) 64
      rw [psTo_all] at h1; exact h1
     have hM : ∃ M, IntS G5 gmv M ∧ (∀ y ∈ M, Pt y ∧ ownI (PT ns ws) y = ns[k]) ∧ M.length ≤ 64 ∧ M.length = (ps64.filter (fun key => decide (ownI (PT ns ws) key = ns[k]))).length := ⟨_, hmm, hmem, hml, rfl⟩
     clear hmm hmem hml
     obtain ⟨M, hmm, hmem, hml, hMe⟩ := hM
     refine vl asg <| nl <| thn <| sq <| sq <| rg <| vl (aI rfl) <| nl <| thn <| bk <| ?_
     refine lp (σ := Nat) (fun i => [(5, nv), (7, tv), (9, .int .i64 (k : Int)), (10, xv), (11, gmv), (12, .int .i64 (i : Int))]) (fun i w => i ≤ M.length ∧ K e w G5 L) (fun i => M.length - i) 0 ⟨rfl, rfl, rfl, rfl, rfl, rfl, trivial⟩ ⟨Nat.zero_le _, hK⟩ ?_
     rintro i g w ⟨hi, hK⟩
     refine sq <| sq <| rg <| ?_
     refine vl (mI rfl) <| vl mv <| vl (ln Try.underlying23 rfl hmm.len) <| vl (lt rfl rfl) <| nl <| thn <| ?_
     refine cdP rfl (fun hc2 => ?_) (fun hc2 => ?_)
     ·have hi' : i < M.length := by omega
      have hmi := hmem _ (List.getElem_mem hi')
      refine sk <| thn <| sq <| bk <| sq <| ?_
      refine rgq (fun w => K _ w _ _) Ty.mixed kr (hK.drawn _) ?_
      refine qv (fun w hK => mv) <| ?_; refine qv (fun w hK => mv) <| ?_; refine qv (fun w hK => (mI rfl)) <| ?_; refine qv (fun w hK => (ixn1 Try.underlying23 Ty.s3 rfl hmm.1 rfl om)) <| ?_; refine qldV Ty.o3 rfl (hmm.at om) <| ?_
      refine qcl Try.call10 rfl (fun w hK => PlaceOwner_c hK ht hT hmi.1) ?_
      refine qv (fun w hK => mv) <| ?_; refine qv (fun w hK => (mI rfl)) <| ?_; refine qv (fun w hK => (ixn1 Try.underlying23 Ty.s3 rfl hn.1 rfl om)) <| ?_; refine qldV Ty.o3 rfl (hn.at om) <| ?_; refine qv (fun w hK => (ne rfl rfl)) <| ?_; refine qn <| ?_
      intro w hK
      refine thn <| ?_
      refine cdP rfl (fun h6 => ?_) (fun h6 => ?_)
      ·have _ := trivial
       exact absurd hmi.2 h6
      ·refine sk <| bkn <| thn <| rg <| ?_
       refine vl (mI rfl) <| vl (ad rfl rfl) <| vl (aI rfl) <| nl <| thn <| ?_
       exact ⟨i + 1, ⟨rfl, rfl, rfl, rfl, rfl, rfl, trivial⟩, ⟨hi', hK⟩, by omega⟩
     ·refine ex <| the <| the <| bkh <| thn <| sq <| rg <| ?_
      refine vl mv <| vl (ln Try.underlying26 rfl hx.len) <| vl (gt rfl rfl) <| vl (mB rfl) <| ?_
      refine splP (t := 84) rfl (fun h7 => ?_) (fun h7 => ?_)
      ·refine gy rfl <| vl mv <| gy rfl <| vl (ln Try.underlying23 rfl hmm.len) <| gy rfl <| vl mv <| gy rfl <| vl mv <| gy rfl <| vl (mI rfl) <| gy rfl <| vl (ixn1 Try.underlying23 Ty.s3 rfl hn.1 rfl om) <| gy rfl <| vl (ldV hK Ty.o3 rfl (hn.at om)) <| gy rfl <| ?_
       refine cl Try.call11 rfl (PlaceLoad_c hK ht hT hpt) ?_
       rintro _ w ⟨rfl, hK⟩
       refine gy rfl <| vl (eq rfl rfl) <| vl (pk rfl) <| vl (aB rfl) <| nl <| thn <| rt <| p1r (a := .bool _) rfl <| ?_
       exact ⟨congrArg Value.bool (decide_eq_true (congrArg Nat.cast hMe)), _, _, hK, hG1⟩
      ·have _ := trivial
       exact absurd (by have := hT2.pos; omega) h7
end
end Go.Proofs.Ytlpefeeadeocgaa
