/- More operations: exclusive or; bytes by an index that is an integer. Conditions: those that each row states. -/
import Derived.Test.YtlpefeeadeocgaaAp
namespace Go.Ro
open Go

def xorI (a b : Int) : Int := ((a.toNat ^^^ b.toNat : Nat) : Int)
theorem xorI_bd {a b : Int} (ha : 0 ≤ a) (ha' : a < 4611686018427387904) (hb : 0 ≤ b) (hb' : b < 4611686018427387904) : 0 ≤ xorI a b ∧ xorI a b < 4611686018427387904 := by
  have h1 : a.toNat < 2 ^ 62 := by omega
  have h2 : b.toNat < 2 ^ 62 := by omega
  have := Nat.xor_lt_two_pow h1 h2
  unfold xorI
  omega

theorem BytS.at {G : View} {v : Value} {xs : List Int} (h : BytS G v xs) {i : Nat} (hi : i < xs.length) : cellV G (elA v i) = some (.int .u8 xs[i]) := (h.atB hi).1
theorem BytS.atI {G : View} {v : Value} {xs : List Int} (h : BytS G v xs) {j : Int} (h0 : 0 ≤ j) (h1 : j < xs.length) : cellV G (elA v j.toNat) = some (.int .u8 (xs.getD j.toNat 0)) := by
  have hi : j.toNat < xs.length := by omega
  rw [h.at hi]; simp [List.getD, hi]
theorem BytS.bd {G : View} {v : Value} {xs : List Int} (h : BytS G v xs) (i : Nat) : 0 ≤ xs.getD i 0 ∧ xs.getD i 0 ≤ 255 := by
  by_cases hi : i < xs.length
  · have := (h.atB hi).2
    simpa [List.getD, hi] using this
  · simp [List.getD, List.getElem?_eq_none (Nat.le_of_not_lt hi)]

section
variable {P : Program} {n : Nat} {f : Sl} {w : World} {dst : Option Tmp} {ty : TypeId} {pos : String} {af : Array Edge} {g : Option (Nat × Bool)}
theorem xr {T T' : Nat} {x y : Operand} {a b : Int} (hx : ev n f x = .int .i64 a) (hy : ev n f y = .int .i64 b) (ha : 0 ≤ a) (ha' : a < 4611686018427387904) (hb : 0 ≤ b) (hb' : b < 4611686018427387904) :
    St P n ⟨dst, .binOp .xor T x y T', ty, pos, af, g⟩ f w (.int .i64 (xorI a b)) w := by
  refine run_bin hx hy ?_
  obtain ⟨a, rfl⟩ := Int.eq_ofNat_of_zero_le ha
  obtain ⟨b, rfl⟩ := Int.eq_ofNat_of_zero_le hb
  have hbd := xorI_bd ha ha' hb hb'
  have h1 : (BitVec.ofInt 64 (a : Int) ^^^ BitVec.ofInt 64 (b : Int)).toNat = a ^^^ b := by
    rw [BitVec.ofInt_natCast, BitVec.ofInt_natCast, BitVec.toNat_xor, BitVec.toNat_ofNat, BitVec.toNat_ofNat, Nat.mod_eq_of_lt (by omega), Nat.mod_eq_of_lt (by omega)]
  have h2 : xorI (a : Int) (b : Int) = ((a ^^^ b : Nat) : Int) := rfl
  rw [h2] at hbd ⊢
  have h3 : IntKind.i64.wrap ((a ^^^ b : Nat) : Int) = ((a ^^^ b : Nat) : Int) := wrap64_in (show (-9223372036854775808 : Int) ≤ _ by omega) (show _ ≤ (9223372036854775807 : Int) by omega)
  show (Op.intBits .xor .i64 (a : Int) (b : Int)).run P w = _
  unfold Op.intBits
  show (Sem.pure (Value.int IntKind.i64 (IntKind.i64.wrap ((BitVec.ofInt 64 (a : Int) ^^^ BitVec.ofInt 64 (b : Int)).toNat : Int)))).run P w = _
  rw [h1, h3]; rfl
end

section
variable {P : Program} {n : Nat} {f : Sl} {ops : Array Oper} {rest : List Oper} {d : Nat} {ty : TypeId} {pos : String} {af : Array Edge} {e : World} {G : View} {L : Own} {R : Sl → Prop}
theorem qldV {T : Nat} {x : Operand} {a : Addr} {v : Value} (h1 : OneC P T) (hp : ev n f x = .pointer (some a)) (hc : cellV G a = some v) (h : WQ P n ops (fun w => K e w G L) R rest (upd f d v)) :
    WQ P n ops (fun w => K e w G L) R (⟨some d, .load T x, ty, pos, af, none⟩ :: rest) f := qv (fun _ hK => ldV hK h1 hp hc) h
theorem qldO {T : Nat} {x : Operand} {b o t : Nat} {cs : List Value} {v : Value} (h1 : OneC P T) (k : Nat) (hn : L[k]? = some (b, row cs t))
    (hp : ev n f x = .pointer (some ⟨b, o, none⟩)) (hc : cs[o]? = some v) (h : WQ P n ops (fun w => K e w G L) R rest (upd f d v)) :
    WQ P n ops (fun w => K e w G L) R (⟨some d, .load T x, ty, pos, af, none⟩ :: rest) f := qv (fun _ hK => ldO hK h1 k hn hp hc) h
end
end Go.Ro
