/- The plain sum (CRC-32C) over bytes, as a fold; no program in sight. -/
import Derived.Test.YtogejjbclimjjaaKit
namespace Go.Proofs.Ytogejjbclimjjaa
set_option linter.unusedVariables false
set_option linter.unusedSimpArgs false

/-- one bit of the division -/
def crcBit (s : BitVec 32) : BitVec 32 := if s.getLsbD 0 then (s >>> 1) ^^^ 0x82F63B78#32 else s >>> 1
def crcBits : Nat → BitVec 32 → BitVec 32
  | 0, s => s
  | n + 1, s => crcBits n (crcBit s)
def crcByte (s : BitVec 32) (c : UInt8) : BitVec 32 := crcBits 8 (s ^^^ c.toBitVec.setWidth 32)
def crcFold (s : BitVec 32) (l : List UInt8) : BitVec 32 := l.foldl crcByte s
def crcOf (l : List UInt8) : BitVec 32 := ~~~ crcFold 4294967295#32 l

theorem crcFold_append (s : BitVec 32) (l m : List UInt8) : crcFold s (l ++ m) = crcFold (crcFold s l) m := by
  simp [crcFold, List.foldl_append]
theorem crcFold_snoc (s : BitVec 32) (l : List UInt8) (c : UInt8) : crcFold s (l ++ [c]) = crcByte (crcFold s l) c := by
  simp [crcFold, List.foldl_append]
theorem crcBits_succ (n : Nat) (s : BitVec 32) : crcBits (n + 1) s = crcBit (crcBits n s) := by
  induction n generalizing s with
  | zero => rfl
  | succ n ih => rw [crcBits, ih, crcBits]

/-- an unsigned 32-bit value -/
abbrev u32v (s : BitVec 32) : Value := .int .u32 (s.toNat : Int)

theorem ofInt_toNat32 (s : BitVec 32) : BitVec.ofInt 32 (s.toNat : Int) = s := by
  apply BitVec.eq_of_toNat_eq; simp
theorem u32_wrap_toNat (s : BitVec 32) : IntKind.u32.wrap (s.toNat : Int) = (s.toNat : Int) := by
  rw [IntKind.wrap_u32]; have := s.isLt; omega
theorem bits_xor32 (s t : BitVec 32) : bits .xor .u32 (s.toNat : Int) (t.toNat : Int) = ((s ^^^ t).toNat : Int) := by
  show IntKind.u32.wrap ((BitVec.ofInt 32 (s.toNat : Int) ^^^ BitVec.ofInt 32 (t.toNat : Int)).toNat : Int) = _
  rw [ofInt_toNat32, ofInt_toNat32, u32_wrap_toNat]
theorem bits_and32 (s t : BitVec 32) : bits .and .u32 (s.toNat : Int) (t.toNat : Int) = ((s &&& t).toNat : Int) := by
  show IntKind.u32.wrap ((BitVec.ofInt 32 (s.toNat : Int) &&& BitVec.ofInt 32 (t.toNat : Int)).toNat : Int) = _
  rw [ofInt_toNat32, ofInt_toNat32, u32_wrap_toNat]
theorem bits_xor32_8 (s : BitVec 32) (c : UInt8) : bits .xor .u32 (s.toNat : Int) (c.toNat : Int) = ((s ^^^ c.toBitVec.setWidth 32).toNat : Int) := by
  have h := bits_xor32 s (c.toBitVec.setWidth 32)
  have e : (c.toBitVec.setWidth 32).toNat = c.toNat := by
    have := c.toNat_lt
    simp [BitVec.toNat_setWidth]
  rw [e] at h
  exact h
theorem shr1_32 (s : BitVec 32) : (s.toNat : Int) / (2 : Int) = ((s >>> 1).toNat : Int) := by
  simp [BitVec.toNat_ushiftRight, Nat.shiftRight_eq_div_pow]
theorem u32_of_u8 (c : UInt8) : IntKind.u32.wrap (c.toNat : Int) = ((c.toBitVec.setWidth 32).toNat : Int) := by
  rw [IntKind.wrap_u32]
  have := c.toNat_lt
  simp [BitVec.toNat_setWidth]
  omega
theorem and1_32 (s : BitVec 32) : ((s &&& 1#32).toNat : Int) = if s.getLsbD 0 then 1 else 0 := by
  have h : (s &&& 1#32).toNat = s.toNat % 2 := by
    rw [BitVec.toNat_and]; exact Nat.and_one_is_mod _
  rw [h, BitVec.getLsbD, Nat.testBit_zero]
  rcases Nat.mod_two_eq_zero_or_one s.toNat with e | e <;> simp [e]
theorem not32 (s : BitVec 32) : bits .xor .u32 IntKind.u32.max (s.toNat : Int) = ((~~~ s).toNat : Int) := by
  show bits .xor .u32 4294967295 (s.toNat : Int) = _
  have := bits_xor32 (4294967295#32) s
  rw [show ((4294967295#32 : BitVec 32).toNat : Int) = 4294967295 from rfl] at this
  rw [this, show (4294967295#32 : BitVec 32) = BitVec.allOnes 32 by decide, BitVec.allOnes_xor]
theorem bit_odd (s : BitVec 32) (h : s.getLsbD 0 = true) : (bits .and .u32 (s.toNat : Int) 1 == 1) = true := by
  have := bits_and32 s 1#32
  rw [show ((1#32 : BitVec 32).toNat : Int) = 1 from rfl, and1_32, if_pos h] at this
  rw [this]; rfl
theorem bit_even (s : BitVec 32) (h : s.getLsbD 0 = false) : (bits .and .u32 (s.toNat : Int) 1 == 1) = false := by
  have := bits_and32 s 1#32
  rw [show ((1#32 : BitVec 32).toNat : Int) = 1 from rfl, and1_32, if_neg (by rw [h]; simp)] at this
  rw [this]; rfl
theorem crc_odd (s : BitVec 32) (h : s.getLsbD 0 = true) : bits .xor .u32 ((s.toNat : Int) / 2) 2197175160 = ((crcBit s).toNat : Int) := by
  have := bits_xor32 (s >>> 1) 0x82F63B78#32
  rw [show ((0x82F63B78#32 : BitVec 32).toNat : Int) = 2197175160 from rfl, ← shr1_32] at this
  rw [this, crcBit, if_pos h]
theorem crc_even (s : BitVec 32) (h : s.getLsbD 0 = false) : (s.toNat : Int) / 2 = ((crcBit s).toNat : Int) := by
  rw [shr1_32, crcBit, if_neg (by rw [h]; simp)]
end Go.Proofs.Ytogejjbclimjjaa
