/- The sum as the rest of a long division of bits: plain. No program in sight. -/
import Derived.Test.YtoalihddfgehjaaTurn
namespace Go.Proofs.Ytoalihddfgehjaa
set_option linter.unusedVariables false
set_option linter.unusedSimpArgs false

def poly : BitVec 32 := 0x82F63B78#32
def pb (k : Nat) : Bool := poly.getLsbD k
/-- one row of the division: from place i on, the first k places behind it -/
def rowN (g : Nat → Bool) (i k : Nat) : Nat → Bool := fun j => if i + 1 ≤ j ∧ j < i + 1 + k then (g j ^^ (g i && pb (j - i - 1))) else g j
/-- the row of bits when the division has come to place i -/
def divN (m : Nat → Bool) : Nat → Nat → Bool
  | 0 => fun j => if j < 32 then !m j else m j
  | i + 1 => rowN (divN m i) i 32

theorem rowN_zero (g : Nat → Bool) (i : Nat) : rowN g i 0 = g := by
  funext j; unfold rowN; rw [if_neg (by omega)]
theorem rowN_none (g : Nat → Bool) (i k : Nat) (h : g i = false) : rowN g i k = g := by
  funext j; unfold rowN; rw [h]; simp
theorem rowN_at (g : Nat → Bool) (i k : Nat) : rowN g i k i = g i := by unfold rowN; rw [if_neg (by omega)]
theorem rowN_next (g : Nat → Bool) (i k : Nat) : rowN g i k (i + 1 + k) = g (i + 1 + k) := by unfold rowN; rw [if_neg (by omega)]
theorem rowN_succ (g : Nat → Bool) (i k : Nat) (hi : g i = true) : rowN g i (k + 1) = fun j => if j = i + 1 + k then (rowN g i k j ^^ pb k) else rowN g i k j := by
  funext j
  unfold rowN
  by_cases h : j = i + 1 + k
  · subst h
    rw [if_pos (by omega), if_pos rfl, if_neg (by omega), hi, show i + 1 + k - i - 1 = k by omega]; simp
  · rw [if_neg h]
    by_cases h2 : i + 1 ≤ j ∧ j < i + 1 + k
    · rw [if_pos h2, if_pos (by omega)]
    · rw [if_neg h2, if_neg (by omega)]

theorem divN_far (m : Nat → Bool) (i j : Nat) (h : i + 32 ≤ j) : divN m i j = m j := by
  induction i generalizing j with
  | zero => unfold divN; rw [if_neg (by omega)]
  | succ i ih => unfold divN rowN; rw [if_neg (by omega)]; exact ih j (by omega)

theorem gbit_bit (s : BitVec 32) (b : Bool) (j : Nat) (hj : j < 32) :
    (gbit s b).getLsbD j = ((if j = 31 then false else s.getLsbD (j + 1)) ^^ ((s.getLsbD 0 ^^ b) && pb j)) := by
  have hm : ∀ k, (if b then 1#32 else 0#32).getLsbD k = (decide (k = 0) && b) := by
    intro k
    cases b
    · simp
    · by_cases h : k = 0 <;> simp [h]
  have h0 : (s ^^^ (if b then 1#32 else 0#32)).getLsbD 0 = (s.getLsbD 0 ^^ b) := by rw [BitVec.getLsbD_xor, hm]; simp
  have hs : (s ^^^ (if b then 1#32 else 0#32)).getLsbD (j + 1) = (if j = 31 then false else s.getLsbD (j + 1)) := by
    rw [BitVec.getLsbD_xor, hm]
    have : decide (j + 1 = 0) = false := by simp
    rw [this]
    by_cases h : j = 31
    · subst h; simp
    · rw [if_neg h]; simp
  unfold gbit crcBit
  rw [h0]
  cases hc : (s.getLsbD 0 ^^ b)
  · rw [if_neg (by simp)]
    rw [BitVec.getLsbD_ushiftRight, Nat.add_comm 1 j, hs]; simp
  · rw [if_pos rfl]
    rw [BitVec.getLsbD_xor, BitVec.getLsbD_ushiftRight, Nat.add_comm 1 j, hs]; simp [pb, poly]

/-- the window of the division is the register, turned by what is not yet fed -/
theorem window (l : List Bool) : ∀ i, i ≤ l.length → ∀ j, j < 32 → divN (fun k => l.getD k false) i (i + j) = ((feed 4294967295#32 (l.take i)).getLsbD j ^^ l.getD (i + j) false) := by
  intro i
  induction i with
  | zero =>
    intro _ j hj
    rw [Nat.zero_add]
    show (if j < 32 then !l.getD j false else l.getD j false) = _
    rw [if_pos hj]
    have : (feed 4294967295#32 (List.take 0 l)).getLsbD j = true := by
      show (4294967295#32).getLsbD j = true
      rw [show (4294967295#32 : BitVec 32) = BitVec.allOnes 32 by rfl, BitVec.getLsbD_allOnes]; simpa using hj
    rw [this]; simp
  | succ i ih =>
    intro hi j hj
    have ht : l.take (i + 1) = l.take i ++ [l[i]] := List.take_succ_eq_append_getElem (by omega)
    have hf : feed 4294967295#32 (l.take (i + 1)) = gbit (feed 4294967295#32 (l.take i)) (l[i]) := by
      rw [ht, feed_append]; rfl
    have h0 := ih (by omega) 0 (by omega)
    rw [Nat.add_zero] at h0
    have hli : l.getD i false = l[i] := by simp [List.getD, show i < l.length by omega]
    rw [hf, gbit_bit _ _ _ hj, ← hli, ← h0]
    show rowN (divN (fun k => l.getD k false) i) i 32 (i + 1 + j) = _
    unfold rowN
    rw [if_pos (by omega), show i + 1 + j - i - 1 = j by omega]
    by_cases h31 : j = 31
    · subst h31
      rw [divN_far _ i (i + 1 + 31) (by omega), if_pos rfl]
      cases l.getD (i + 1 + 31) false <;> simp
    · rw [if_neg h31, show i + 1 + j = i + (j + 1) by omega, ih (by omega) (j + 1) (by omega)]
      generalize (feed 4294967295#32 (List.take i l)).getLsbD (j + 1) = x
      generalize l.getD (i + (j + 1)) false = y
      generalize (divN (fun k => l.getD k false) i i && pb j) = z
      cases x <;> cases y <;> cases z <;> rfl

theorem gb_getD (l : List UInt8) (j : Nat) : (bitsOf l).getD j false = gb l j := by
  rw [bitsOf_eq]
  by_cases h : j < 8 * l.length
  · simp [List.getD, h]
  · have : gb l j = false := by
      unfold gb
      have : l.getD (j / 8) 0 = 0 := by simp [List.getD, show ¬ j / 8 < l.length by omega]
      rw [this]; simp
    simp [List.getD, h, this]

/-- the last 32 bits, turned over, are the sum -/
theorem division (l : List UInt8) (j : Nat) (hj : j < 32) : divN (gb l) (8 * l.length) (8 * l.length + j) = !(crcOf l).getLsbD j := by
  have hg : gb l = fun k => (bitsOf l).getD k false := by funext k; exact (gb_getD l k).symm
  have hl : (bitsOf l).length = 8 * l.length := by rw [bitsOf_eq]; simp
  rw [hg, window (bitsOf l) (8 * l.length) (by omega) j hj]
  have : (bitsOf l).getD (8 * l.length + j) false = false := by simp [List.getD, hl]
  rw [this, show (bitsOf l).take (8 * l.length) = bitsOf l by rw [← hl, List.take_length], ← crcFold_feed]
  unfold crcOf
  rw [BitVec.getLsbD_not]
  simp [hj]

/-- reading a number from its top bit down -/
theorem top_down (x : BitVec 32) (k : Nat) (h : k < 32) : x.toNat / 2 ^ (31 - k) = 2 * (x.toNat / 2 ^ (32 - k)) + (x.getLsbD (31 - k)).toNat := by
  have e : 32 - k = (31 - k) + 1 := by omega
  rw [e, Nat.pow_succ, ← Nat.div_div_eq_div_mul]
  generalize hy : x.toNat / 2 ^ (31 - k) = y
  have : (x.getLsbD (31 - k)).toNat = y % 2 := by
    rw [BitVec.getLsbD, Nat.testBit_eq_decide_div_mod_eq, hy]
    rcases Nat.mod_two_eq_zero_or_one y with h | h <;> simp [h]
  omega
end Go.Proofs.Ytoalihddfgehjaa
