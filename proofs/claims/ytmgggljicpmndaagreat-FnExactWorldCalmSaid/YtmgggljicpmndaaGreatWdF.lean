/- Worlds in memory that is new since a view. Conditions: those that each row states. -/
import Derived.Test.YtmgggljicpmndaaGreatWdM
import Derived.Test.YtmgggljicpmndaaGreatOx
namespace Go.Ro
open Go
section
variable {e w w' : World} {G G' G0 G1 : View} {L A B AI AS : Own} {lc : Ls → List Value} {tN tL tI tS : TypeId} {W : Wv} {wd : Wd} {rs : List Rn}
def wb (W : Wv) (rs : List Rn) : List Nat := bl W.r ++ ((rs.flatMap fun x => bl x.2.2.1) ++ (bl W.l ++ (bl W.i ++ (bl W.t ++ bl W.s))))
structure WdF (lc : Ls → List Value) (tN tL tI tS : TypeId) (G0 G : View) (W : Wv) (wd : Wd) (rs : List Rn) : Prop where
  ring : New 3 tN G0 G W.r rs.length (rs.flatMap rc)
  inn : RnF tS G0 G rs
  leases : New 3 tL G0 G W.l wd.leases.length (wd.leases.flatMap lc)
  items : New 2 tI G0 G W.i wd.items.length (wd.items.flatMap ic)
  told : New 1 tS G0 G W.t wd.scan.2.length (ints wd.scan.2)
  since : New 1 tS G0 G W.s wd.since.length (ints wd.since)
  nd : (wb W rs).Nodup
theorem WdF.mono (h : WdF lc tN tL tI tS G0 G W wd rs) (hG : VLe G G') : WdF lc tN tL tI tS G0 G' W wd rs :=
  ⟨h.ring.mono hG, h.inn.mono hG, h.leases.mono hG, h.items.mono hG, h.told.mono hG, h.since.mono hG, h.nd⟩
theorem WdF.older (h : WdF lc tN tL tI tS G1 G W wd rs) (hG : VLe G0 G1) : WdF lc tN tL tI tS G0 G W wd rs :=
  ⟨h.ring.older hG, h.inn.older hG, h.leases.older hG, h.items.older hG, h.told.older hG, h.since.older hG, h.nd⟩
def Bks (G : View) (bs : List Nat) : Prop := bs.Nodup ∧ ∀ b ∈ bs, ∃ o, G b = some o
theorem Bks.nil : Bks G [] := ⟨List.nodup_nil, fun _ h => absurd h (by simp)⟩
theorem Bks.mono {bs : List Nat} (h : Bks G bs) (hG : VLe G G') : Bks G' bs := ⟨h.1, fun b hb => let ⟨o, ho⟩ := h.2 b hb; ⟨o, hG b o ho⟩⟩
theorem Bks.app {as bs : List Nat} (hb : Bks G bs) (ha : Bks G' as) (hG : VLe G G') (hn : ∀ b ∈ as, G b = none) : Bks G' (as ++ bs) := by
  refine ⟨List.nodup_append.2 ⟨ha.1, hb.1, fun x hx y hy hxy => ?_⟩, fun b h => ?_⟩
  · subst hxy
    obtain ⟨o, ho⟩ := hb.2 x hy
    rw [hn x hx] at ho; cases ho
  · rcases List.mem_append.1 h with h | h
    · exact ha.2 b h
    · exact (hb.mono hG).2 b h
theorem Bks.perm {as bs : List Nat} (h : Bks G as) (hp : bs.Perm as) : Bks G bs := ⟨hp.nodup_iff.2 h.1, fun b hb => h.2 b (hp.subset hb)⟩
theorem Bks.sub {as bs : List Nat} (h : Bks G as) (hp : bs.Sublist as) : Bks G bs := ⟨h.1.sublist hp, fun b hb => h.2 b (hp.subset hb)⟩
theorem New.bk {sz m : Nat} {t : TypeId} {v : Value} {cs : List Value} (h : New sz t G0 G v m cs) : Bks G (bl v) := ⟨bl_nodup v, fun b hb => (h.fresh b hb).2⟩
theorem RnF.bk {t : TypeId} (h : RnF t G0 G rs) : Bks G (rs.flatMap fun x => bl x.2.2.1) := ⟨h.nd, fun b hb => by
  obtain ⟨x, hx, hb⟩ := List.mem_flatMap.1 hb
  exact ((h.new x hx).fresh b hb).2⟩
theorem RnF.fresh {t : TypeId} (h : RnF t G0 G rs) : ∀ b ∈ (rs.flatMap fun x => bl x.2.2.1), G0 b = none := fun b hb => by
  obtain ⟨x, hx, hb⟩ := List.mem_flatMap.1 hb
  exact ((h.new x hx).fresh b hb).1
theorem WdF.bk (h : WdF lc tN tL tI tS G0 G W wd rs) : Bks G (wb W rs) := by
  refine ⟨h.nd, fun b hb => ?_⟩
  unfold wb at hb
  simp only [List.mem_append] at hb
  rcases hb with hb | hb | hb | hb | hb | hb
  · exact (h.ring.fresh b hb).2
  · exact h.inn.bk.2 b hb
  · exact (h.leases.fresh b hb).2
  · exact (h.items.fresh b hb).2
  · exact (h.told.fresh b hb).2
  · exact (h.since.fresh b hb).2
theorem WdF.fresh (h : WdF lc tN tL tI tS G0 G W wd rs) : ∀ b ∈ wb W rs, G0 b = none := by
  intro b hb
  unfold wb at hb
  simp only [List.mem_append] at hb
  rcases hb with hb | hb | hb | hb | hb | hb
  · exact (h.ring.fresh b hb).1
  · exact h.inn.fresh b hb
  · exact (h.leases.fresh b hb).1
  · exact (h.items.fresh b hb).1
  · exact (h.told.fresh b hb).1
  · exact (h.since.fresh b hb).1
structure WdT (lc : Ls → List Value) (tN tL tI tS : TypeId) (W : Wv) (wd : Wd) (os : List Ron) (AR AL AI AT AS : Own) : Prop where
  ring : OZ 3 tN W.r os.length ((toRs os).flatMap rc) AR
  inn : OZS tS (uso os)
  leases : OZ 3 tL W.l wd.leases.length (wd.leases.flatMap lc) AL
  items : OZ 2 tI W.i wd.items.length (wd.items.flatMap ic) AI
  told : OZ 1 tS W.t wd.scan.2.length (ints wd.scan.2) AT
  since : OZ 1 tS W.s wd.since.length (ints wd.since) AS
theorem WdF.take (h : WdF lc tN tL tI tS G0 G W wd rs) (hK : K e w G L) (hG : VLe G0 G) :
    ∃ G' os AR AL AI AT AS, VLe G0 G' ∧ toRs os = rs ∧ WdT lc tN tL tI tS W wd os AR AL AI AT AS ∧ K e w G' (AR ++ (flat (uso os) ++ (AL ++ (AI ++ (AT ++ (AS ++ L)))))) := by
  obtain ⟨AR, r1, r2, r3⟩ := h.ring.oz
  obtain ⟨os, i1, i2, i3, i4⟩ := h.inn.own
  obtain ⟨AL, l1, l2, l3⟩ := h.leases.oz
  obtain ⟨AI, t1, t2, t3⟩ := h.items.oz
  obtain ⟨AT, o1, o2, o3⟩ := h.told.oz
  obtain ⟨AS, s1, s2, s3⟩ := h.since.oz
  have hm : (AR ++ (flat (uso os) ++ (AL ++ (AI ++ (AT ++ AS))))).map (·.1) = wb W rs := by
    unfold wb
    simp only [List.map_append]
    rw [r2, i3, l2, t2, o2, s2]
  have hk := hK.take (A := AR ++ (flat (uso os) ++ (AL ++ (AI ++ (AT ++ AS))))) (fun x hx => by
    simp only [List.mem_append] at hx
    rcases hx with hx | hx | hx | hx | hx | hx
    · exact (r3 x hx).2
    · exact (i4 x hx).2
    · exact (l3 x hx).2
    · exact (t3 x hx).2
    · exact (o3 x hx).2
    · exact (s3 x hx).2) (by rw [hm]; exact h.nd)
  refine ⟨_, os, AR, AL, AI, AT, AS, subV_le (bs := (AR ++ (flat (uso os) ++ (AL ++ (AI ++ (AT ++ AS))))).map (·.1)) hG (by rw [hm]; exact h.fresh), i1, ⟨?_, i2, l1, t1, o1, s1⟩, ?_⟩
  · rw [← i1, toRs_len] at r1; rw [← i1] at *; exact r1
  · simpa only [List.append_assoc] using hk
end
end Go.Ro
