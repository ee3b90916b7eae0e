/- Lemmas and contracts, part 18. -/
import Derived.Test.YtoikjgcggmemaaaGreatDoorZb17
import Derived.IntWalk
/- The walk of 'burst'. -/
namespace Go.Proofs.YtoikjgcggmemaaaGreatDoor
open Go.RowKit Go.Deep Go.Maps
set_option linter.unusedVariables false

theorem xor8 (x : UInt8) {km : Nat} (h : km < 8) : bits BinOp.xor IntKind.u8 (x.toNat : Int) (IntKind.u8.wrap (2 ^ km)) = ((x ^^^ UInt8.ofNat (2 ^ km)).toNat : Int) := by
  have h2 : 2 ^ km < 256 := Nat.lt_of_lt_of_le (Nat.pow_lt_pow_right (by omega) h) (by decide)
  have hx := x.toNat_lt
  have e1 : IntKind.u8.wrap (2 ^ km) = ((2 ^ km : Nat) : Int) := by
    rw [show ((2 : Int) ^ km) = ((2 ^ km : Nat) : Int) by simp]
    generalize 2 ^ km = m at *
    simp [IntKind.wrap, IntKind.signed, IntKind.bits]
    omega
  rw [e1]
  have e0 : bits BinOp.xor IntKind.u8 (x.toNat : Int) ((2 ^ km : Nat) : Int) = IntKind.u8.wrap (((BitVec.ofInt 8 (x.toNat : Int) ^^^ BitVec.ofInt 8 ((2 ^ km : Nat) : Int)).toNat : Nat) : Int) := rfl
  rw [e0, BitVec.ofInt_natCast, BitVec.ofInt_natCast, BitVec.toNat_xor, BitVec.toNat_ofNat, BitVec.toNat_ofNat, UInt8.toNat_xor, UInt8.toNat_ofNat', Nat.mod_eq_of_lt (a := x.toNat) (by omega), Nat.mod_eq_of_lt (a := 2 ^ km) (by omega)]
  have h3 : x.toNat ^^^ 2 ^ km < 2 ^ 8 := Nat.xor_lt_two_pow (by omega) (by omega)
  generalize x.toNat ^^^ 2 ^ km = y at *
  simp [IntKind.wrap, IntKind.signed, IntKind.bits]
  omega
theorem xor8m (x : UInt8) {km : Nat} (h : km < 8) : bits BinOp.xor IntKind.u8 (x.toNat : Int) (2 ^ km % 256) = ((x ^^^ UInt8.ofNat (2 ^ km)).toNat : Int) := by
  have := xor8 x h
  rw [show IntKind.u8.wrap ((2 : Int) ^ km) = 2 ^ km % 256 by simp [IntKind.wrap, IntKind.signed, IntKind.bits]] at this
  exact this
theorem flip_mid {pre M post : List UInt8} {k : Nat} (h : k / 8 < M.length) : (pre ++ M ++ post).set (pre.length + k / 8) ((pre ++ M ++ post).getD (pre.length + k / 8) 0 ^^^ UInt8.ofNat (2 ^ (k % 8))) = pre ++ flip M k ++ post := by
  have e : (pre ++ M ++ post).getD (pre.length + k / 8) 0 = M.getD (k / 8) 0 := by
    simp only [List.getD_eq_getElem?_getD]
    rw [List.append_assoc, List.getElem?_append_right (by omega), Nat.add_sub_cancel_left, List.getElem?_append_left h]
  rw [e]
  unfold flip
  rw [List.append_assoc, List.set_append_right _ _ (by omega), Nat.add_sub_cancel_left, List.set_append_left _ _ h, List.append_assoc]
theorem cellsB_set (V : List UInt8) (z : Nat) (y : UInt8) : (cellsB V).set z (.int .u8 (y.toNat : Int)) = cellsB (V.set z y) := by
  unfold cellsB
  rw [List.map_set]
theorem turnedF_succ (N f : Nat) (bs : BitVec 32) (q : Nat) : turnedF N f bs (q + 1) = if hitB N f bs q then true else turnedF N f bs q := rfl
theorem flips_succ (l : List UInt8) (f : Nat) (bs : BitVec 32) (q : Nat) : flips l f bs (q + 1) = if hitB (8 * l.length) f bs q then flip (flips l f bs q) (f + q) else flips l f bs q := rfl
theorem bitW (bs : BitVec 32) (q : Nat) : (bits BinOp.and IntKind.u32 ((bs.toNat : Int) / 2 ^ q) 1 == 1) = bs.getLsbD q := by
  have h := andW (bs >>> q)
  rw [shrW] at h
  rw [show ((bs.toNat : Int) / 2 ^ q) = ((bs.toNat / 2 ^ q : Nat) : Int) by simp, h, BitVec.getLsbD, Nat.testBit_eq_decide_div_mod_eq]
  have : bs.toNat / 2 ^ q % 2 = 0 ∨ bs.toNat / 2 ^ q % 2 = 1 := by omega
  rcases this with e | e <;> rw [e] <;> rfl
section
variable {W w : World} {X : List Asn} {v : Value} {pre R post : List UInt8} {at_ : Nat} {bs : BitVec 32}
end
end Go.Proofs.YtoikjgcggmemaaaGreatDoor
