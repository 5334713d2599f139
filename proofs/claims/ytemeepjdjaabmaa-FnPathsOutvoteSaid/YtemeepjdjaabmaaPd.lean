/- Contracts of the two functions that tell whether paths are disjoint. Conditions: those that each row states. -/
import Derived.Test.YtemeepjdjaabmaaPs
namespace Go.Proofs.Ytemeepjdjaabmaa
open Go Go.Ro

section
variable {e w : World} {G : View} {L : Own} {v u : Value} {xs ys : List Int} {xss yss : List (List Int)}

theorem implPathsDisjoint_c (hK : K e w G L) (hv : ISS G v xss) : Ret Try.prog 19 #[v] w (fun r w' => (∃ b, r = .bool b ∧ (b = true ↔ Disj xss)) ∧ K e w' G L) := by
  have hle := hv.le
  refine enter1 (args := [v]) Try.func19 rfl rfl rfl rfl ?_
  refine sq <| rg <| ?_
  refine vl (asv (v := .bool _) rfl) <| nl <| thn <| sq <| sq <| rg <| vl mv <| ?_
  refine cl Try.call57 rfl (pathsOk_c hK hv) ?_
  rintro _ w ⟨⟨b, rfl, hb⟩, hK⟩
  refine vl (ntB rfl) <| nl <| thn <| ?_
  refine cdB rfl (fun hx => ?_) (fun hx => ?_)
  · refine sq <| rg <| ?_
    refine vl (asv (v := .bool _) rfl) <| nl <| thn <| rt <| thr <| p1r (a := .bool _) rfl <| ?_
    exact ⟨⟨_, rfl, by simp; intro h; rw [hb.2 h.1] at hx; cases hx⟩, hK⟩
  · have hok : PathsOk xss := hb.1 (by simpa using hx)
    refine sk <| thn <| sq <| rg <| ?_
    refine mkm hK fun b13 w hK => ?_
    refine vl asg <| nl <| thn <| sq <| sq <| rg <| vl mv <| vl (ln Try.underlying23 rfl hv.len) <| vl (mvv (v := .int _ _) rfl) <| nl <| thn <| bk <| ?_
    refine lp (σ := Nat × Obj × List (Int × Int)) (fun s => [(3, .map (some b13)), (14, v), (15, .int .i64 (xss.length : Int)), (16, .int .i64 (s.1 : Int))]) (fun s w => s.1 ≤ xss.length ∧ MI s.2.1 s.2.2 ∧ MapsTo s.2.2 (At xss s.1 0) ∧ K e w G ((b13, s.2.1) :: L)) (fun s => xss.length - s.1) (0, .map #[] 0, []) ⟨rfl, rfl, rfl, rfl, trivial⟩ ⟨Nat.zero_le _, MI.nil, ⟨by intro x a h; rcases h with ⟨h, _⟩ | ⟨_, h⟩ <;> simp at h, by intro x z h; cases h⟩, hK⟩ ?_
    rintro ⟨i, o, l⟩ g w ⟨hi, hl, ha, hK⟩
    simp only at hi hl ha hK
    refine sq <| rg <| ?_
    refine vl (lt rfl rfl) <| nl <| thn <| sq <| ?_
    refine cdP rfl (fun hc => ?_) (fun hc => ?_)
    · have hi' : i < xss.length := by simp only at hc; omega
      obtain ⟨u, hu, hui⟩ := hv.at hi'
      have hule := hui.le
      refine sk <| thn <| sq <| bk <| sq <| rg <| ?_
      refine vl (mvv (v := .int _ _) rfl) <| vl (ixn1 Try.underlying23 Ty.s24 rfl hv.1 rfl (by first | omega | (simp only; omega))) <| vl (ldV hK Ty.o24 rfl hu) <| vl (asv (v := .int _ _) rfl) <| vl asg <| nl <| thn <| sq <| rg <| vl mv <| vl (ln Try.underlying24 rfl hui.len) <| vl (mvv (v := .int _ _) rfl) <| nl <| thn <| bk <| ?_
      have hgd : xss.getD i [] = xss[i] := getD_lt hi'
      refine lp (σ := Nat × Obj × List (Int × Int)) (fun s => [(3, .map (some b13)), (4, .int .i64 (i : Int)), (14, v), (15, .int .i64 (xss.length : Int)), (16, .int .i64 (i : Int)), (21, u), (22, .int .i64 (xss[i].length : Int)), (23, .int .i64 (s.1 : Int))]) (fun s w => s.1 ≤ xss[i].length ∧ MI s.2.1 s.2.2 ∧ MapsTo s.2.2 (At xss i s.1) ∧ K e w G ((b13, s.2.1) :: L)) (fun s => xss[i].length - s.1) (0, o, l) ⟨rfl, rfl, rfl, rfl, rfl, rfl, rfl, rfl, trivial⟩ ⟨Nat.zero_le _, hl, ha, hK⟩ ?_
      rintro ⟨k, o, l⟩ g w ⟨hk, hl, ha, hK⟩
      simp only at hk hl ha hK
      refine sq <| rg <| ?_
      refine vl (lt rfl rfl) <| nl <| thn <| sq <| ?_
      refine cdP rfl (fun hd => ?_) (fun hd => ?_)
      · have hk' : k < xss[i].length := by simp only at hd; omega
        refine sk <| thn <| sq <| bk <| sq <| rg <| ?_
        refine vl (ixn1 Try.underlying24 Ty.s3 rfl hui.1 rfl (by first | omega | (simp only; omega))) <| vl (ldV hK Ty.o3 rfl (hui.at (by first | omega | (simp only; omega)))) <| vl (asv (v := .int _ _) rfl) <| nl <| thn <| sq <| sq <| rg <| vl mv <| vl (mvv (v := .int _ _) rfl) <| vl (lkk hK Try.underlying74 Try.underlying3 Ty.i3 rfl rfl 0 rfl hl) <| vl mv <| vl (ext rfl rfl) <| vl (ext rfl rfl) <| vl (asv (v := .int _ _) rfl) <| vl (asv (v := .bool _) rfl) <| nl <| thn <| ?_
        refine sq <| rg <| vl (mvv (v := .bool _) rfl) <| vl (mvv (v := .bool _) rfl) <| ?_
        refine spl (t := 34) rfl (fun hs => ?_) (fun hs => ?_)
        · obtain ⟨z, hz⟩ := Option.isSome_iff_exists.1 hs
          refine gy rfl <| vl (mvv (v := .int _ _) rfl) <| gy rfl <| vl (mvv (v := .int _ _) rfl) <| gy rfl <| vl (ne rfl rfl) <| vl (pk rfl) <| nl <| thn <| ?_
          refine cdP rfl (fun hne => ?_) (fun hne => ?_)
          · refine sq <| rg <| ?_
            refine vl (asv (v := .bool _) rfl) <| nl <| thn <| rt <| thr <| bkr <| thr <| thr <| bkr <| bkr <| thr <| thr <| bkr <| thr <| p1r (a := .bool _) rfl <| ?_
            refine ⟨⟨_, rfl, ?_⟩, K.drop1 hK⟩
            simp only [Bool.false_eq_true, false_iff]
            intro hD
            obtain ⟨a, rfl, hA⟩ := ha.2 _ _ hz
            rw [hz] at hne
            rcases hA with ⟨h1, h2⟩ | ⟨h1, _⟩
            · exact hD.2 i a h1 hi' xss[i][k] (by rw [hgd]; exact List.getElem_mem hk') h2
            · exact hne (by rw [h1]; rfl)
          · refine sk <| thn <| rg <| ?_
            refine vl mv <| vl (mvv (v := .int _ _) rfl) <| vl (mvv (v := .int _ _) rfl) <| ?_
            refine mu hK Try.underlying74 Try.underlying3 rfl rfl rfl 0 rfl hl fun o' w hl' hK => ?_
            refine nl <| bkn <| thn <| rg <| vl (ad rfl rfl (by first | omega | (simp only; omega)) (by first | omega | (simp only; omega))) <| vl (mvv (v := .int _ _) rfl) <| nl <| thn <| ?_
            exact ⟨(k + 1, o', _), ⟨rfl, rfl, rfl, rfl, rfl, rfl, rfl, rfl, trivial⟩, ⟨hk', hl', ha.step (by rw [hgd]; exact hk') (by simp only [hgd]) (by rw [hz]; rw [hz] at hne; exact .inr (congrArg some (Decidable.not_not.1 hne))), hK⟩, by simp only; omega⟩
        · have hs' : lkI l xss[i][k] = none := by cases h : lkI l xss[i][k] with
            | none => rfl
            | some z => rw [h] at hs; cases hs
          refine gn rfl <| gn rfl <| gn rfl <| vl (pk rfl) <| nl <| thn <| ?_
          refine cdf rfl ?_
          refine sk <| thn <| rg <| ?_
          refine vl mv <| vl (mvv (v := .int _ _) rfl) <| vl (mvv (v := .int _ _) rfl) <| ?_
          refine mu hK Try.underlying74 Try.underlying3 rfl rfl rfl 0 rfl hl fun o' w hl' hK => ?_
          refine nl <| bkn <| thn <| rg <| vl (ad rfl rfl (by first | omega | (simp only; omega)) (by first | omega | (simp only; omega))) <| vl (mvv (v := .int _ _) rfl) <| nl <| thn <| ?_
          exact ⟨(k + 1, o', _), ⟨rfl, rfl, rfl, rfl, rfl, rfl, rfl, rfl, trivial⟩, ⟨hk', hl', ha.step (by rw [hgd]; exact hk') (by simp only [hgd]) (by exact .inl hs'), hK⟩, by simp only; omega⟩
      · have hk' : k = xss[i].length := by simp only at hd; omega
        refine ex <| the <| the <| bkh <| bkn <| thn <| rg <| ?_
        refine vl (ad rfl rfl (by first | omega | (simp only; omega)) (by first | omega | (simp only; omega))) <| vl (mvv (v := .int _ _) rfl) <| nl <| thn <| ?_
        exact ⟨(i + 1, o, l), ⟨rfl, rfl, rfl, rfl, trivial⟩, ⟨hi', hl, ha.congr (fun x a => At.next (by rw [hgd]; omega)), hK⟩, by simp only; omega⟩
    · have hi' : i = xss.length := by simp only at hc; omega
      subst hi'
      refine ex <| the <| the <| bkh <| thn <| sq <| rg <| ?_
      refine vl (asv (v := .bool _) rfl) <| nl <| thn <| rt <| p1r (a := .bool _) rfl <| ?_
      exact ⟨⟨_, rfl, by simp; exact ⟨hok, ha.disj⟩⟩, K.drop1 hK⟩

end
end Go.Proofs.Ytemeepjdjaabmaa