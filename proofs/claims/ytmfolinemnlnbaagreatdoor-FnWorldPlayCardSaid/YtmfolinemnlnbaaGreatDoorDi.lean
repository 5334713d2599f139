/- Contracts of the functions that draw spoilt rings. Conditions: those that each row states. -/
import Derived.Test.YtmfolinemnlnbaaGreatDoorDh
namespace Go.Proofs.YtmfolinemnlnbaaGreatDoor
open Go Go.Ro Tryz
section
variable {e w : World} {G : View} {L A : Own} {v u cva : Value} {code xs ys : List Int} {rs qs : List Rn} {a b c k kd p : Int} {rb t t' : Nat}
theorem spPub {os : List Ron} {x : Nat × Obj} (hus : OSS t (uso os)) (ho : OS 3 t' v os.length ((toRs os).flatMap rc) A) (hK : K e w G (x :: (A ++ (flat (uso os) ++ L)))) : ∃ G', VLe G G' ∧ OR G' t' v (toRs os) A ∧ K e w G' (x :: (A ++ L)) := by
 have hK' : K e w G (A ++ (flat (uso os) ++ (x :: L))) := hK.reo
 obtain ⟨G1, h1, h2, h3⟩ := K.pubIn hus hK'
 exact ⟨G1, h1, ⟨by rw [toRs_len]; exact ho, h2⟩, h3.reo⟩
theorem spPub2 {x : Nat × Obj} (hO : OR G t v rs A) (hK : K e w G (x :: (A ++ L))) : ∃ G', VLe G G' ∧ RngS G' v rs ∧ K e w G' (x :: L) := hO.pub (K.mid1 hK)
theorem spSplit {os : List Ron} {m : Nat} (h : m < os.length) : ∃ pre o post, os = pre ++ o :: post ∧ m = pre.length :=
 ⟨os.take m, os[m], os.drop (m + 1), by rw [← List.drop_eq_getElem_cons h, List.take_append_drop], by simp; omega⟩
theorem spFlat {pre post : List Ron} {o : Ron} : flat (uso (pre ++ o :: post)) = flat (uso pre) ++ (o.2.2.2.2 ++ flat (uso post)) := by simp [flat, uso]
theorem spCell {os : List Ron} (ho : OS 3 t' v os.length ((toRs os).flatMap rc) A) (hK : K e w G (A ++ L)) {m j : Nat} {o : Ron} {u : Value} (hm : os[m]? = some o) (hj : (rc (toR o))[j]? = some u) : w.cell? (elA v (m * 3 + j)) = some u :=
 ho.cell hK (by rw [flat_get' rc_len (toRs os) m j (toR o) (by unfold toRs; rw [List.getElem?_map, hm]; rfl) (by have := (List.getElem?_eq_some_iff.1 hj).1; rw [rc_len] at this; exact this)]; exact hj)
theorem spOut {pre post : List Ron} {o : Ron} {x : Nat × Obj} (hK : K e w G (x :: (A ++ (flat (uso (pre ++ o :: post)) ++ L)))) : K e w G (o.2.2.2.2 ++ (x :: (A ++ (flat (uso pre) ++ (flat (uso post) ++ L))))) := by
 rw [spFlat] at hK
 exact hK.reo
theorem spIn {pre post : List Ron} {o : Ron} {A2 : Own} {x : Nat × Obj} (hus : OSS t (uso (pre ++ o :: post))) (ho : OS 3 t' v (pre ++ o :: post).length ((toRs (pre ++ o :: post)).flatMap rc) A) (ho2 : OS 1 t o.2.2.1 ys.length (ints ys) A2)
  (hK : K e w G (A2 ++ (x :: (A ++ (flat (uso pre) ++ (flat (uso post) ++ L)))))) : ∃ G' rs', VLe G G' ∧ RngS G' v rs' ∧ rs'.length = (pre ++ o :: post).length ∧ K e w G' (x :: L) := by
 have hK' : K e w G (x :: (A ++ (flat (uso (pre ++ (o.1, o.2.1, o.2.2.1, ys, A2) :: post)) ++ L))) := by
  rw [spFlat]
  exact hK.reo
 have hus' : OSS t (uso (pre ++ (o.1, o.2.1, o.2.2.1, ys, A2) :: post)) := by
  intro q hq
  unfold uso at hq
  rw [List.map_append, List.map_cons] at hq
  rcases List.mem_append.1 hq with h | h
  ·exact hus q (by unfold uso; rw [List.map_append]; exact List.mem_append_left _ h)
  ·rcases List.mem_cons.1 h with rfl | h
   ·exact ho2
   ·exact hus q (by unfold uso; rw [List.map_append, List.map_cons]; exact List.mem_append_right _ (List.mem_cons_of_mem _ h))
 have hfm : (toRs (pre ++ (o.1, o.2.1, o.2.2.1, ys, A2) :: post)).flatMap rc = (toRs (pre ++ o :: post)).flatMap rc := by simp [toRs, toR, rc]
 have hl : (pre ++ (o.1, o.2.1, o.2.2.1, ys, A2) :: post).length = (pre ++ o :: post).length := by simp
 obtain ⟨G1, h1, h2, h3⟩ := spPub hus' (by rw [hl, hfm]; exact ho) hK'
 obtain ⟨G2, g1, g2, g3⟩ := spPub2 h2 h3
 exact ⟨G2, _, h1.trans g1, g2, by rw [toRs_len]; exact hl, g3⟩
theorem spAt {pre post : List Ron} {o : Ron} : (pre ++ o :: post)[pre.length]? = some o := by simp
set_option maxHeartbeats 4000000 in
theorem l91Spoilt_c (hK : K e w G ((rb, row [cva, .int .i64 p] 98) :: L)) (hcode : BytS G cva code) (hlen : code.length ≤ 2000) (h0 : 0 ≤ p) (h1 : p ≤ 600000000) :
  Ret prog 76 #[.pointer (some ⟨rb, 0, none⟩)] w (fun r w' => ∃ G' rs p', VLe G G' ∧ RngS G' r rs ∧ rs.length ≤ 20 ∧ p ≤ p' ∧ p' ≤ p + 600 ∧ K e w' G' ((rb, row [cva, .int .i64 p'] 98) :: L)) := by
 refine enter1 (args := [.pointer (some ⟨rb, 0, none⟩)]) func76 rfl rfl rfl rfl ?_
 refine sq <| rg <| ?_
 refine vl asg <| nl <| thn <| sq <| rg <| vl mv <| ?_
 refine cl call117 rfl (l91Ring_c hK hcode hlen h0 om) ?_
 rintro v1 w ⟨G1, rs, p1, hG1, hv, hsf, hp1, hp2, hK⟩
 replace hcode := hcode.mono hG1
 refine cl call87 rfl (l3Copy_c hK hv (by have := len_of hsf.1; omega) (hal_of hsf.1)) ?_
 rintro v2 w ⟨os, A, hrg, hus, ho, hK⟩
 have hol : os.length = rs.length := by have := congrArg List.length hrg; rw [rg_len, rg_len, toRs_len] at this; exact this
 have hpos := rgSafe_pos hsf
 have hl10 := len_of hsf.1
 have hin : ∀ o ∈ os, o.2.2.2.1.length = 2 := fun o h => by
  have : nd (toR o) ∈ rgl rs := by rw [← hrg]; exact List.mem_map.2 ⟨_, List.mem_map.2 ⟨o, h, rfl⟩, rfl⟩
  exact (hsf.1.2.1 _ this).2.2.1
 clear hrg hv hsf
 replace hK : K _ _ _ ((rb, row [cva, .int .i64 p1] 98) :: (A ++ (flat (uso os) ++ L))) := hK.reo
 refine vl asg <| nl <| thn <| sq <| sq <| rg <| vl mv <| ?_
 refine cl call32 rfl (pickN_c hK hcode hlen om om om) ?_
 rintro _ w ⟨⟨k9, rfl, r1, r2⟩, hK⟩
 refine vl (gt rfl rfl) <| nl <| thn <| ?_
 refine cdP rfl (fun hc => ?_) fun hc => ?_
 ·refine sq <| rg <| ?_
  refine vl mv <| vl asg <| nl <| thn <| rt <| thr <| p1r (a := _) rfl <| ?_
  obtain ⟨G2, hG2, hO, hK⟩ := spPub hus ho hK
  obtain ⟨G3, hG3, hR, hK⟩ := spPub2 hO hK
  exact ⟨G3, _, _, (hG1.trans hG2).trans hG3, hR, by rw [toRs_len]; omega, by omega, by omega, hK⟩
 ·skip
  refine sk <| thn <| sq <| rg <| ?_
  refine vl mv <| vl mv <| vl (ln underlying23 rfl ho.len) <| ?_
  refine cl call32 rfl (pickN_c hK hcode hlen om om om) ?_
  rintro _ w ⟨⟨k15, rfl, r3, r4⟩, hK⟩
  obtain ⟨m, rfl⟩ : ∃ m : Nat, k15 = m := ⟨k15.toNat, by omega⟩
  have hm : m < os.length := by omega
  have hmt : m < (toRs os).length := by rw [toRs_len]; exact hm
  refine vl (aI rfl) <| nl <| thn <| sq <| sq <| rg <| vl mv <| ?_
  refine cl call32 rfl (pickN_c hK hcode hlen om om om) ?_
  rintro _ w ⟨⟨k17, rfl, r5, r6⟩, hK⟩
  refine nl <| thn <| ?_
  refine ct (σ := View × Value × List Rn × Int) (fun s => [(3, s.2.1)]) (fun s w => VLe G1 s.1 ∧ RngS s.1 s.2.1 s.2.2.1 ∧ s.2.2.1.length ≤ 20 ∧ (p ≤ s.2.2.2 ∧ s.2.2.2 ≤ p + 600) ∧ K e w s.1 ((rb, row [cva, .int .i64 s.2.2.2] 98) :: L)) ?_ ?_
  ·refine bk <| sq <| rg <| ?_
   refine vl (eq rfl rfl) <| vl (aB rfl) <| nl <| thn <| ?_
   refine cdP rfl (fun c0 => ?_) fun c0 => ?_
   ·refine rg <| ?_
    refine vl mv <| vl (mI rfl) <| vl mv <| ?_
    refine cl call32 rfl (pickN_c hK hcode hlen om om om) ?_
    rintro _ w ⟨⟨k23, rfl, r7, r8⟩, hK⟩
    refine vl (sb rfl rfl) <| vl (ixn underlying23 Ty.s40 rfl ho.slw rfl hm) <| vl (fe underlying40 rfl Ty.z3 rfl ho.slw om) <| ?_
    obtain ⟨G2, hG2, hO, hK⟩ := spPub hus ho hK
    refine osSetC (i := m * 3 + 1) (u := .int .i64 (k23 - 1)) (K.mid1 hK) hO.os om Ty.i3 rfl rfl rfl rfl fun A2 w ho3 hK => ?_
    refine nl <| bkn <| ctn <| ?_
    have hO2 := hO.put hmt (by omega) (y := ((toRs os)[m].1, k23 - 1, (toRs os)[m].2.2.1, (toRs os)[m].2.2.2)) rfl (hO.at hmt) ho3
    obtain ⟨G3, hG3, hR, hK⟩ := hO2.pub hK
    exact ⟨(G3, _, _, _), ⟨rfl, trivial⟩, hG2.trans hG3, hR, by simp only; rw [List.length_set, toRs_len]; omega, ⟨by simp only; omega, by simp only; omega⟩, hK⟩
   ·refine sq <| rg <| ?_
    refine vl (eq rfl rfl) <| vl (aB rfl) <| nl <| thn <| ?_
    refine cdP rfl (fun c1 => ?_) fun c1 => ?_
    ·skip
     obtain ⟨pre, o, post, rfl, rfl⟩ := spSplit hm
     have hoo : OS 1 3 o.2.2.1 o.2.2.2.1.length (ints o.2.2.2.1) o.2.2.2.2 := hus _ (List.mem_map.2 ⟨o, by simp, rfl⟩)
     have hlo := hin o (by simp)
     refine rgs (fun w => K e w G1 (A ++ L)) (fun w => K _ w _ _) [U,U,U,U,U,U,U,U,U,U,U] 11 Ty.mixed rfl rfl (hK.drawn _) ?_
     intro w hK
     have hS : (fun w => K e w G1 (A ++ L)) w := (by first | exact (K.drop1 hK).dropM | exact ((((K.dropL hK).drop1).dropM).dropM))
     refine xt (i := 0) rfl kr rfl rfl (fun w hK => mv) hS <| xt (i := 1) rfl kr rfl rfl (fun w hK => (mI rfl)) hS <| xt (i := 2) rfl kr rfl rfl (fun w hK => (ixn underlying23 Ty.s40 rfl ho.slw rfl hm)) hS <| xt (i := 3) rfl kr rfl rfl (fun w hK => (fe underlying40 rfl Ty.z26 rfl ho.slw om)) hS <| xt (i := 4) rfl kr rfl rfl (fun w hK => (ldC Ty.o26 rfl (spCell (j := 2) ho hK spAt rfl))) hS <| xt (i := 5) rfl kr rfl rfl (fun w hK => mv) hS <| xt (i := 7) rfl kr rfl rfl (fun w hK => mv) hS <| ?_
     refine xe (i := 6) kr rfl rfl ?_
     refine cl call32 rfl (pickN_c hK hcode hlen om om om) ?_
     rintro _ w ⟨⟨k35, rfl, r7, r8⟩, hK⟩
     refine xnk ((by first | exact (K.drop1 hK).dropM | exact ((((K.dropL hK).drop1).dropM).dropM))) fun hS => ?_
     refine xe (i := 8) kr rfl rfl ?_
     refine cl call74 rfl (l91Point_c hK hcode hlen om om) ?_
     rintro _ w ⟨k37, p37, rfl, r9, r10, r11, r12, hK⟩
     refine xnk ((by first | exact (K.drop1 hK).dropM | exact ((((K.dropL hK).drop1).dropM).dropM))) fun hS => ?_
     refine xt (i := 9) rfl kr rfl rfl (fun w hK => (ix1 underlying26 Ty.s3 rfl hoo.slw rfl om om)) hS <| ?_
     refine xe (i := 10) kr rfl rfl ?_
     refine osSetC (i := k35.toNat) (u := .int .i64 k37) (spOut hK) hoo om Ty.i3 rfl rfl rfl rfl fun A2 w hoo2 hK => ?_
     rw [ints_set] at hoo2
     refine xnk ((by first | exact (K.drop1 hK).dropM | exact ((((K.dropL hK).drop1).dropM).dropM))) fun hS => ?_
     refine xd kr <| bkn <| ctn <| ?_
     obtain ⟨G3, rs3, hG3, hR, hrl, hK⟩ := spIn (ys := o.2.2.2.1.set k35.toNat k37) hus ho (by rw [List.length_set]; exact hoo2) hK
     exact ⟨(G3, _, _, _), ⟨rfl, trivial⟩, hG3, hR, by simp only; omega, ⟨by simp only; omega, by simp only; omega⟩, hK⟩
    ·refine sq <| rg <| ?_
     refine vl (eq rfl rfl) <| vl (aB rfl) <| nl <| thn <| ?_
     refine cdP rfl (fun c2 => ?_) fun c2 => ?_
     ·refine rg <| ?_
      refine vl mv <| vl (mI rfl) <| vl mv <| ?_
      refine cl call74 rfl (l91Point_c hK hcode hlen om om) ?_
      rintro _ w ⟨k44, p44, rfl, r9, r10, r11, r12, hK⟩
      refine vl (ixn underlying23 Ty.s40 rfl ho.slw rfl hm) <| vl (fe underlying40 rfl Ty.z3 rfl ho.slw om) <| ?_
      obtain ⟨G2, hG2, hO, hK⟩ := spPub hus ho hK
      refine osSetC (i := m * 3 + 0) (u := .int .i64 k44) (K.mid1 hK) hO.os om Ty.i3 rfl rfl rfl rfl fun A2 w ho3 hK => ?_
      refine nl <| bkn <| ctn <| ?_
      have hO2 := hO.put hmt (by omega) (y := (k44, (toRs os)[m].2.1, (toRs os)[m].2.2.1, (toRs os)[m].2.2.2)) rfl (hO.at hmt) ho3
      obtain ⟨G3, hG3, hR, hK⟩ := hO2.pub hK
      exact ⟨(G3, _, _, _), ⟨rfl, trivial⟩, hG2.trans hG3, hR, by simp only; rw [List.length_set, toRs_len]; omega, ⟨by simp only; omega, by simp only; omega⟩, hK⟩
     ·refine sq <| rg <| ?_
      refine vl (eq rfl rfl) <| vl (aB rfl) <| nl <| thn <| ?_
      refine cdP rfl (fun c3 => ?_) fun c3 => ?_
      ·skip
       obtain ⟨G2, hG2, hO, hK⟩ := spPub hus ho hK
       have hx := hO.at hmt
       have hxl : (toRs os)[m].2.2.2.length = 2 := by have := hin os[m] (List.getElem_mem hm); have e : (toRs os)[m] = toR os[m] := List.getElem_map ..; rw [e]; exact this
       replace hcode := hcode.mono hG2
       refine rgs (fun w => K e w G2 L) (fun w => K _ w _ _) [U,U,U,U,U,U,U,U,U,U,U,U,U] 13 Ty.mixed rfl rfl (hK.drawn _) ?_
       intro w hK
       have hS : (fun w => K e w G2 L) w := (by first | exact K.dropL (K.drop1 hK) | exact K.drop1 (K.dropL hK))
       refine xt (i := 0) rfl kr rfl rfl (fun w hK => mv) hS <| xt (i := 1) rfl kr rfl rfl (fun w hK => (mI rfl)) hS <| xt (i := 2) rfl kr rfl rfl (fun w hK => mv) hS <| xt (i := 3) rfl kr rfl rfl (fun w hK => (mI rfl)) hS <| xt (i := 4) rfl kr rfl rfl (fun w hK => (ixn underlying23 Ty.s40 rfl hO.os.slw rfl hmt)) hS <| xt (i := 5) rfl kr rfl rfl (fun w hK => (fe underlying40 rfl Ty.z26 rfl hO.os.slw om)) hS <| xt (i := 7) rfl kr rfl rfl (fun w hK => mv) hS <| ?_
       refine xe2 (i := 6) (j := 8) kr rfl rfl rfl rfl ?_ ?_
       ·refine vl (ldC Ty.o26 rfl (hO.cell (K.mid1 hK) hmt 2 rfl)) <| ?_
        refine xnk ((by first | exact K.dropL (K.drop1 hK) | exact K.drop1 (K.dropL hK))) fun hS => ?_
        refine xe (i := 8) kr rfl rfl ?_
        refine cl call32 rfl (pickN_c hK hcode hlen om om om) ?_
        rintro _ w ⟨⟨k57, rfl, r7, r8⟩, hK⟩
        refine xnk ((by first | exact K.dropL (K.drop1 hK) | exact K.drop1 (K.dropL hK))) fun hS => ?_
        refine xt (i := 9) rfl kr rfl rfl (fun w hK => (slHi (h := k57.toNat) underlying26 Ty.s3 rfl hx.1 (congrArg (Value.int .i64) (by omega : k57 = (k57.toNat : Int))) om)) hS <| xt (i := 10) rfl kr rfl rfl (fun w hK => (ixn underlying23 Ty.s40 rfl hO.os.slw rfl hmt)) hS <| xt (i := 11) rfl kr rfl rfl (fun w hK => (fe underlying40 rfl Ty.z26 rfl hO.os.slw om)) hS <| ?_
        refine xe (i := 12) kr rfl rfl ?_
        refine osSetC (i := m * 3 + 2) (u := slc (toRs os)[m].2.2.1 0 k57.toNat 1) (K.mid1 hK) hO.os om Ty.i26 rfl rfl rfl (hx.slc (Nat.zero_le _) (by omega : k57.toNat ≤ (toRs os)[m].2.2.2.length)).1.one fun A2 w ho3 hK => ?_
        refine xnk ((by first | exact K.dropL (K.drop1 hK) | exact K.drop1 (K.dropL hK))) fun hS => ?_
        refine xd kr <| bkn <| ctn <| ?_
        have hO2 := hO.put hmt (by omega) (y := ((toRs os)[m].1, (toRs os)[m].2.1, slc (toRs os)[m].2.2.1 0 k57.toNat 1, ((toRs os)[m].2.2.2.take k57.toNat).drop 0)) rfl (hx.slc (Nat.zero_le _) (by omega)) ho3
        obtain ⟨G3, hG3, hR, hK⟩ := hO2.pub hK
        exact ⟨(G3, _, _, _), ⟨rfl, trivial⟩, hG2.trans hG3, hR, by simp only; rw [List.length_set, toRs_len]; omega, ⟨by simp only; omega, by simp only; omega⟩, hK⟩
       ·skip
        refine cl call32 rfl (pickN_c hK hcode hlen om om om) ?_
        rintro _ w ⟨⟨k57, rfl, r7, r8⟩, hK⟩
        refine xnk ((by first | exact K.dropL (K.drop1 hK) | exact K.drop1 (K.dropL hK))) fun hS => ?_
        refine xe (i := 6) kr rfl rfl ?_
        refine vl (ldC Ty.o26 rfl (hO.cell (K.mid1 hK) hmt 2 rfl)) <| ?_
        refine xnk ((by first | exact K.dropL (K.drop1 hK) | exact K.drop1 (K.dropL hK))) fun hS => ?_
        refine xt (i := 9) rfl kr rfl rfl (fun w hK => (slHi (h := k57.toNat) underlying26 Ty.s3 rfl hx.1 (congrArg (Value.int .i64) (by omega : k57 = (k57.toNat : Int))) om)) hS <| xt (i := 10) rfl kr rfl rfl (fun w hK => (ixn underlying23 Ty.s40 rfl hO.os.slw rfl hmt)) hS <| xt (i := 11) rfl kr rfl rfl (fun w hK => (fe underlying40 rfl Ty.z26 rfl hO.os.slw om)) hS <| ?_
        refine xe (i := 12) kr rfl rfl ?_
        refine osSetC (i := m * 3 + 2) (u := slc (toRs os)[m].2.2.1 0 k57.toNat 1) (K.mid1 hK) hO.os om Ty.i26 rfl rfl rfl (hx.slc (Nat.zero_le _) (by omega : k57.toNat ≤ (toRs os)[m].2.2.2.length)).1.one fun A2 w ho3 hK => ?_
        refine xnk ((by first | exact K.dropL (K.drop1 hK) | exact K.drop1 (K.dropL hK))) fun hS => ?_
        refine xd kr <| bkn <| ctn <| ?_
        have hO2 := hO.put hmt (by omega) (y := ((toRs os)[m].1, (toRs os)[m].2.1, slc (toRs os)[m].2.2.1 0 k57.toNat 1, ((toRs os)[m].2.2.2.take k57.toNat).drop 0)) rfl (hx.slc (Nat.zero_le _) (by omega)) ho3
        obtain ⟨G3, hG3, hR, hK⟩ := hO2.pub hK
        exact ⟨(G3, _, _, _), ⟨rfl, trivial⟩, hG2.trans hG3, hR, by simp only; rw [List.length_set, toRs_len]; omega, ⟨by simp only; omega, by simp only; omega⟩, hK⟩
      ·refine sq <| rg <| ?_
       refine vl (eq rfl rfl) <| vl (aB rfl) <| nl <| thn <| ?_
       refine cdP rfl (fun c4 => ?_) fun c4 => ?_
       ·skip
        obtain ⟨G2, hG2, hO, hK⟩ := spPub hus ho hK
        obtain ⟨G3, hG3, hR, hK⟩ := spPub2 hO hK
        have hs := hR.sl
        have hrl : (toRs os).length = os.length := toRs_len ..
        have hone1 : ∀ k ∈ ((toRs os).take m).drop 0, (rc k).all Ro.one = true := fun k hk => hR.one k (List.mem_of_mem_take (List.mem_of_mem_drop hk))
        have hone2 : ∀ k ∈ ((toRs os).take (toRs os).length).drop (m + 1), (rc k).all Ro.one = true := fun k hk => hR.one k (List.mem_of_mem_take (List.mem_of_mem_drop hk))
        refine rgs (fun w => K e w G3 L) (fun w => K _ w _ _) [U,U,U,U,U,U,U,U,U,U,U] 11 Ty.mixed rfl rfl (hK.drawn _) ?_
        intro w hK
        have hS : (fun w => K e w G3 L) w := (by first | exact K.drop1 hK | exact K.drop1 (K.drop1 hK) | exact K.drop1 (K.dropL hK))
        refine xt (i := 1) rfl kr rfl rfl (fun w hK => mv) hS <| xt (i := 2) rfl kr rfl rfl (fun w hK => (mI rfl)) hS <| xt (i := 3) rfl kr rfl rfl (fun w hK => (slHi (h := m) underlying23 Ty.s40 rfl hs.1 rfl om)) hS <| xt (i := 5) rfl kr rfl rfl (fun w hK => mv) hS <| xt (i := 6) rfl kr rfl rfl (fun w hK => (mI rfl)) hS <| xt (i := 7) rfl kr rfl rfl (fun w hK => (ad rfl rfl)) hS <| xt (i := 8) rfl kr rfl rfl (fun w hK => (slLo (l := m + 1) underlying23 Ty.s40 rfl hs.1 rfl om)) hS <| ?_
        refine xe (i := 0) kr rfl rfl ?_
        refine bs0 hK underlying23 Ty.i40 ?_
        intro b63 w hK
        refine xnk ((by first | exact K.drop1 hK | exact K.drop1 (K.drop1 hK) | exact K.drop1 (K.dropL hK))) fun hS => ?_
        refine xe (i := 4) kr rfl rfl ?_
        refine apR (A := [(b63, row [] 40)]) (xs := []) hK underlying23 Ty.i40 rfl rfl rfl OS.none rfl (hs.slc (Nat.zero_le _) om) hone1 (by simp; omega) fun v1 A1 w ho1 hK => ?_
        refine xnk ((by first | exact K.drop1 hK | exact K.drop1 (K.drop1 hK) | exact K.drop1 (K.dropL hK))) fun hS => ?_
        refine xe (i := 9) kr rfl rfl ?_
        refine apR hK underlying23 Ty.i40 rfl rfl rfl ho1 rfl (hs.slc om (Nat.le_refl _)) hone2 (by simp; omega) fun v2 A2 w ho2 hK => ?_
        refine xnk ((by first | exact K.drop1 hK | exact K.drop1 (K.drop1 hK) | exact K.drop1 (K.dropL hK))) fun hS => ?_
        refine xt (i := 10) rfl kr rfl rfl (fun w hK => asg) hS <| xd kr <| bkn <| ctn <| ?_
        obtain ⟨G4, hG4, hR4, hK⟩ := K.pubR (rs := [] ++ ((toRs os).take m).drop 0 ++ ((toRs os).take (toRs os).length).drop (m + 1)) (fun x hx => hR.aft x (by
          rcases List.mem_append.1 hx with h | h
          ·exact List.mem_of_mem_take (show x ∈ (toRs os).take m by simpa using h)
          ·exact List.mem_of_mem_take (List.mem_of_mem_drop h))) ho2 hK
        exact ⟨(G4, _, _, _), ⟨rfl, trivial⟩, (hG2.trans hG3).trans hG4, hR4, by simp; omega, ⟨by simp only; omega, by simp only; omega⟩, hK⟩
       ·refine sq <| rg <| ?_
        refine vl (eq rfl rfl) <| vl (aB rfl) <| nl <| thn <| ?_
        refine cdP rfl (fun c5 => ?_) fun c5 => ?_
        ·skip
         obtain ⟨pre, o, post, rfl, rfl⟩ := spSplit hm
         have hoo : OS 1 3 o.2.2.1 o.2.2.2.1.length (ints o.2.2.2.1) o.2.2.2.2 := hus _ (List.mem_map.2 ⟨o, by simp, rfl⟩)
         have hlo := hin o (by simp)
         refine rgs (fun w => K e w G1 (A ++ L)) (fun w => K _ w _ _) [U,U,U,U,U,U,U,U,U,U,U,U,U,U,U] 15 Ty.mixed rfl rfl (hK.drawn _) ?_
         intro w hK
         have hS : (fun w => K e w G1 (A ++ L)) w := (by first | exact (K.drop1 hK).dropM | exact ((((K.dropL hK).drop1).dropM).dropM))
         refine xt (i := 0) rfl kr rfl rfl (fun w hK => mv) hS <| xt (i := 1) rfl kr rfl rfl (fun w hK => (mI rfl)) hS <| xt (i := 2) rfl kr rfl rfl (fun w hK => (ixn underlying23 Ty.s40 rfl ho.slw rfl hm)) hS <| xt (i := 3) rfl kr rfl rfl (fun w hK => (fe underlying40 rfl Ty.z26 rfl ho.slw om)) hS <| xt (i := 4) rfl kr rfl rfl (fun w hK => (ldC Ty.o26 rfl (spCell (j := 2) ho hK spAt rfl))) hS <| xt (i := 5) rfl kr rfl rfl (fun w hK => mv) hS <| xt (i := 6) rfl kr rfl rfl (fun w hK => mv) hS <| xt (i := 7) rfl kr rfl rfl (fun w hK => mv) hS <| xt (i := 8) rfl kr rfl rfl (fun w hK => (ln underlying23 rfl ho.len)) hS <| ?_
         refine xe (i := 9) kr rfl rfl ?_
         refine cl call32 rfl (pickN_c hK hcode hlen om om om) ?_
         rintro _ w ⟨⟨k84, rfl, r7, r8⟩, hK⟩
         obtain ⟨m2, rfl⟩ : ∃ m : Nat, k84 = m := ⟨k84.toNat, by omega⟩
         have hm2 : m2 < (pre ++ o :: post).length := by omega
         refine xnk ((by first | exact (K.drop1 hK).dropM | exact ((((K.dropL hK).drop1).dropM).dropM))) fun hS => ?_
         refine xt (i := 10) rfl kr rfl rfl (fun w hK => (ixn underlying23 Ty.s40 rfl ho.slw rfl hm2)) hS <| xt (i := 11) rfl kr rfl rfl (fun w hK => (fe underlying40 rfl Ty.z3 rfl ho.slw om)) hS <| xt (i := 12) rfl kr rfl rfl (fun w hK => (ldC Ty.o3 rfl (spCell (j := 0) ho hK (List.getElem?_eq_getElem hm2) rfl))) hS <| xt (i := 13) rfl kr rfl rfl (fun w hK => (ix1 (j := 0) underlying26 Ty.s3 rfl hoo.slw rfl om om)) hS <| ?_
         refine xe (i := 14) kr rfl rfl ?_
         refine osSetC (i := 0) (u := .int .i64 (pre ++ o :: post)[m2].1) (spOut hK) hoo om Ty.i3 rfl rfl rfl rfl fun A2 w hoo2 hK => ?_
         rw [ints_set] at hoo2
         refine xnk ((by first | exact (K.drop1 hK).dropM | exact ((((K.dropL hK).drop1).dropM).dropM))) fun hS => ?_
         refine xd kr <| bkn <| ctn <| ?_
         obtain ⟨G3, rs3, hG3, hR, hrl, hK⟩ := spIn (ys := o.2.2.2.1.set 0 (pre ++ o :: post)[m2].1) hus ho (by rw [List.length_set]; exact hoo2) hK
         exact ⟨(G3, _, _, _), ⟨rfl, trivial⟩, hG3, hR, by simp only; omega, ⟨by simp only; omega, by simp only; omega⟩, hK⟩
        ·refine sq <| rg <| ?_
         refine vl (eq rfl rfl) <| vl (aB rfl) <| nl <| thn <| ?_
         refine cdP rfl (fun c6 => ?_) fun c6 => ?_
         ·refine rg <| ?_
          refine vl mv <| vl (mI rfl) <| vl mv <| vl mv <| vl mv <| vl (ln underlying23 rfl ho.len) <| ?_
          refine cl call32 rfl (pickN_c hK hcode hlen om om om) ?_
          rintro _ w ⟨⟨k97, rfl, r7, r8⟩, hK⟩
          obtain ⟨m2, rfl⟩ : ∃ m : Nat, k97 = m := ⟨k97.toNat, by omega⟩
          have hm2 : m2 < os.length := by omega
          refine vl (ixn underlying23 Ty.s40 rfl ho.slw rfl hm2) <| vl (fe underlying40 rfl Ty.z3 rfl ho.slw om) <| vl (ldC Ty.o3 rfl (spCell (j := 0) ho (K.mid1 hK) (List.getElem?_eq_getElem hm2) rfl)) <| vl (ixn underlying23 Ty.s40 rfl ho.slw rfl hm) <| vl (fe underlying40 rfl Ty.z3 rfl ho.slw om) <| ?_
          obtain ⟨G2, hG2, hO, hK⟩ := spPub hus ho hK
          refine osSetC (i := m * 3 + 1) (u := .int .i64 os[m2].1) (K.mid1 hK) hO.os om Ty.i3 rfl rfl rfl rfl fun A2 w ho3 hK => ?_
          refine nl <| bkn <| ctn <| ?_
          have hO2 := hO.put hmt (by omega) (y := ((toRs os)[m].1, os[m2].1, (toRs os)[m].2.2.1, (toRs os)[m].2.2.2)) rfl (hO.at hmt) ho3
          obtain ⟨G3, hG3, hR, hK⟩ := hO2.pub hK
          exact ⟨(G3, _, _, _), ⟨rfl, trivial⟩, hG2.trans hG3, hR, by simp only; rw [List.length_set, toRs_len]; omega, ⟨by simp only; omega, by simp only; omega⟩, hK⟩
         ·refine sk <| bkn <| ctn <| ?_
          obtain ⟨G2, hG2, hO, hK⟩ := spPub hus ho hK
          obtain ⟨G3, hG3, hR, hK⟩ := spPub2 hO hK
          exact ⟨(G3, _, _, _), ⟨rfl, trivial⟩, hG2.trans hG3, hR, by simp only; show (toRs os).length ≤ 20; rw [toRs_len]; omega, ⟨by simp only; omega, by simp only; omega⟩, hK⟩
  ·rintro ⟨G2, v3, rs3, q⟩ g w ⟨hG2, hv3, hl3, ⟨q1, q2⟩, hK⟩
   simp only at hG2 hv3 hl3 q1 q2 hK
   refine thn <| sq <| rg <| ?_
   refine vl mv <| vl asg <| nl <| thn <| rt <| p1r (a := _) rfl <| ?_
   exact ⟨G2, rs3, q, hG1.trans hG2, hv3, hl3, q1, q2, hK⟩
end
end Go.Proofs.YtmfolinemnlnbaaGreatDoor
