/- Contracts of the library's sorted keys of a map. Conditions: those that each row states. -/
import Derived.Test.YtlpefeeadeocgaaType
import Derived.Test.YtlpefeeadeocgaaShf
import Derived.Test.YtlpefeeadeocgaaMpJ
namespace Go.Proofs.Ytlpefeeadeocgaa
open Go Go.Ro Go.RowKit Go.Maps Go.Sort Go.Shelf

theorem sortsA (m : Nat) : AnyZI.SortsIn Try.prog Try.sortedA_ren Fence.wide m :=
  ⟨fun blk off cap ss W hH hblk hsz => callsIn_wide.2 (Try.slices_Sort_int blk off cap ss W hH hblk hsz),
   fun p cap W => callsIn_wide.2 (Try.slices_Sort_int_none p cap W)⟩

section
variable {e w : World} {G : View} {L : Own} {b bm : Nat} {o : Obj} {l : List (Int × Int)}

theorem keys_c (hK : K e w G L) : Ret Try.prog 17 #[.map (some b)] w (fun r w' => ∃ bm, r = .func (.func 30) #[] #[.pointer (some ⟨bm, 0, none⟩)] ∧ K e w' G ((bm, row [.map (some b)] 37) :: L)) := by
  have h : CallsIn Fence.wide 5 Try.prog 17 #[.map (some b)] w fun e w' => e = .returned (.func (.func 30) #[] #[.pointer (some ⟨w.heap.size, 0, none⟩)]) ∧ w' = w.alloc (.cells #[.map (some b)] 37) := AnyZI.keys_in Try.keysA Fence.wide 5 trivial rfl (some b) w
  refine Calls.mono (callsIn_wide.1 h) ?_
  rintro _ _ ⟨rfl, rfl⟩
  exact ⟨_, rfl, _, rfl, hK.alloc _⟩

theorem sortedKeys_c (hK : K e w G L) (hm : (bm, row [.map (some b)] 37) ∈ L) (ho : (b, o) ∈ L) (hl : MJ o l)
    (hw : ∀ p ∈ l, (Lit.int .i64 p.1).wf = true ∧ (Lit.int .i64 p.2).wf = true) (hn : l.length ≤ 1000) :
    Ret Try.prog 16 #[.func (.func 30) #[] #[.pointer (some ⟨bm, 0, none⟩)]] w (fun r w' => ∃ ks A, OS 1 3 r ks.length (ints ks) A ∧ ks.Perm (l.map (·.1)) ∧ ks.Pairwise (· ≤ ·) ∧ K e w' G (A ++ L)) := by
  obtain ⟨D, hD, hDk, hDs⟩ := hl.owns (P := Try.prog) (k := 3) (el := 3) (hK.own _ _ ho) Try.underlying3 Try.underlying3 hw hn
  have hseq : SeqGives Fence.wide 2 Try.prog 30 #[.pointer (some ⟨bm, 0, none⟩)] encZ (fun ss => ss.Perm (intKeys D)) (Maps.size D) w :=
    AnyZI.keys_gives (ρ := Try.keysA_ren) { Try.keysA with } Fence.wide _ trivial rfl (by omega) bm b _ D w (hK.own_lt hm) (by rw [row_cell (hK.own _ _ hm)]; rfl) hD
  have cS := AnyZI.sorted_in Try.sortedA Fence.wide 5 trivial trivial trivial trivial rfl (by omega) (sortsA _) (enters_of Try.func29 (by kernel_rfl) rfl) 30 #[.pointer (some ⟨bm, 0, none⟩)] trivial (enters_of Try.func30 (by kernel_rfl) rfl) _ _ (by rw [hDs]; unfold maxLen; omega) (by rw [hDs]; omega) _ hseq
  refine Calls.mono (callsIn_wide.1 cS) ?_
  rintro _ w' ⟨v, ss, rfl, hS, hrow, _, hb⟩
  have hp := List.mergeSort_perm ss (fun x y => decide (x ≤ y))
  obtain ⟨A, hos, hK'⟩ := hK.ownsRow hb hrow
  refine ⟨v, rfl, ss.mergeSort (fun x y => decide (x ≤ y)), A, ?_, (hp.trans hS).trans hDk, ?_, hK'⟩
  · rw [hp.length_eq]; exact hos
  · have := List.pairwise_mergeSort (le := fun x y : Int => decide (x ≤ y)) (fun a b c h1 h2 => by simp only [decide_eq_true_eq] at *; omega) (fun a b => by simp only [Bool.or_eq_true, decide_eq_true_eq]; omega) ss
    exact this.imp fun h => by simpa using h
end
end Go.Proofs.Ytlpefeeadeocgaa
