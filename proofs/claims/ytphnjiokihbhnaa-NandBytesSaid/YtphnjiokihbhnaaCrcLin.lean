/- The plain sum (CRC-32C): it is linear, its bit step is one to one; what follows of that for ends and turned bits. No program in sight. -/
import Derived.Test.YtphnjiokihbhnaaCrc
namespace Go.Proofs.Ytphnjiokihbhnaa
set_option linter.unusedVariables false
set_option linter.unusedSimpArgs false

theorem xor4 (a b p : BitVec 32) : a ^^^ b = (a ^^^ p) ^^^ (b ^^^ p) := by
  have : (a ^^^ p) ^^^ (b ^^^ p) = (a ^^^ b) ^^^ (p ^^^ p) := by ac_rfl
  rw [this, BitVec.xor_self, BitVec.xor_zero]

theorem crcBit_xor (s t : BitVec 32) : crcBit (s ^^^ t) = crcBit s ^^^ crcBit t := by
  unfold crcBit
  rw [BitVec.getLsbD_xor, BitVec.ushiftRight_xor_distrib]
  cases s.getLsbD 0 <;> cases t.getLsbD 0
  · rfl
  · show (s >>> 1 ^^^ t >>> 1) ^^^ 0x82F63B78#32 = (s >>> 1) ^^^ (t >>> 1 ^^^ 0x82F63B78#32); ac_rfl
  · show (s >>> 1 ^^^ t >>> 1) ^^^ 0x82F63B78#32 = (s >>> 1 ^^^ 0x82F63B78#32) ^^^ (t >>> 1); ac_rfl
  · exact xor4 _ _ _

theorem crcBits_xor (n : Nat) (s t : BitVec 32) : crcBits n (s ^^^ t) = crcBits n s ^^^ crcBits n t := by
  induction n generalizing s t with
  | zero => rfl
  | succ n ih => simp only [crcBits]; rw [crcBit_xor, ih]

theorem crcBit_inj0 (s : BitVec 32) (h : crcBit s = 0#32) : s = 0#32 := by
  unfold crcBit at h
  split at h
  · rename_i hb
    exfalso
    have h31 := congrArg (fun x : BitVec 32 => x.getLsbD 31) h
    simp [BitVec.getLsbD_ushiftRight] at h31
  · rename_i hb
    apply BitVec.eq_of_getLsbD_eq
    intro i hi
    cases i with
    | zero => simpa using hb
    | succ i =>
      have := congrArg (fun x : BitVec 32 => x.getLsbD i) h
      simp only [BitVec.getLsbD_ushiftRight] at this
      rw [Nat.add_comm 1 i] at this
      simpa using this

theorem crcBits_inj0 (n : Nat) (s : BitVec 32) (h : crcBits n s = 0#32) : s = 0#32 := by
  induction n generalizing s with
  | zero => exact h
  | succ n ih => exact crcBit_inj0 s (ih _ h)

/-- a byte as the low bits of a word -/
abbrev wd (c : UInt8) : BitVec 32 := c.toBitVec.setWidth 32

theorem crcByte_xor (s t : BitVec 32) (c d : UInt8) : crcByte (s ^^^ t) (c ^^^ d) = crcByte s c ^^^ crcByte t d := by
  unfold crcByte
  rw [← crcBits_xor]
  congr 1
  simp only [UInt8.toBitVec_xor, BitVec.setWidth_xor]
  ac_rfl

/-- bytes changed by one another -/
def xorl (l m : List UInt8) : List UInt8 := List.zipWith (· ^^^ ·) l m

theorem crcFold_xor (l m : List UInt8) (h : l.length = m.length) (s t : BitVec 32) : crcFold (s ^^^ t) (xorl l m) = crcFold s l ^^^ crcFold t m := by
  induction l generalizing m s t with
  | nil => cases m with
    | nil => rfl
    | cons d m => simp at h
  | cons c l ih =>
    cases m with
    | nil => simp at h
    | cons d m =>
      simp only [List.length_cons, Nat.add_right_cancel_iff] at h
      show crcFold (crcByte (s ^^^ t) (c ^^^ d)) (xorl l m) = crcFold (crcByte s c) l ^^^ crcFold (crcByte t d) m
      rw [crcByte_xor, ih m h]
end Go.Proofs.Ytphnjiokihbhnaa
