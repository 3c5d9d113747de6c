/- The plain sum, bit by bit: what is fed, the lowest bit first; ends; turned bits within a row of 32. No program in sight. -/
import Derived.Test.YtoalihddfgehjaaCrcLin
namespace Go.Proofs.Ytoalihddfgehjaa
set_option linter.unusedVariables false
set_option linter.unusedSimpArgs false

def gbit (s : BitVec 32) (m : Bool) : BitVec 32 := crcBit (s ^^^ (if m then 1#32 else 0#32))
def feed (s : BitVec 32) (l : List Bool) : BitVec 32 := l.foldl gbit s
def low (n : Nat) (x : BitVec 32) : List Bool := (List.range n).map x.getLsbD
def bits8 (c : UInt8) : List Bool := low 8 (wd c)
def bitsOf (l : List UInt8) : List Bool := l.flatMap bits8

theorem feed_append (s : BitVec 32) (l m : List Bool) : feed s (l ++ m) = feed (feed s l) m := by simp [feed, List.foldl_append]

theorem crcBit_even (y : BitVec 32) (h : y.getLsbD 0 = false) : crcBit y = y >>> 1 := by unfold crcBit; rw [if_neg (by rw [h]; simp)]

theorem low_succ (n : Nat) (x : BitVec 32) : low (n + 1) x = x.getLsbD 0 :: low n (x >>> 1) := by
  unfold low
  rw [List.range_succ_eq_map, List.map_cons, List.map_map]
  congr 1
  apply List.map_congr_left
  intro i _
  simp [BitVec.getLsbD_ushiftRight, Nat.add_comm]

theorem feed_low (n : Nat) : ∀ (s x : BitVec 32), (∀ i, n ≤ i → x.getLsbD i = false) → feed s (low n x) = crcBits n (s ^^^ x) := by
  induction n with
  | zero =>
    intro s x h
    have : x = 0#32 := BitVec.eq_of_getLsbD_eq fun i _ => by simpa using h i (Nat.zero_le _)
    subst this
    simp [low, feed, crcBits]
  | succ n ih =>
    intro s x h
    rw [low_succ]
    show feed (gbit s (x.getLsbD 0)) (low n (x >>> 1)) = crcBits n (crcBit (s ^^^ x))
    rw [ih _ (x >>> 1) fun i hi => by rw [BitVec.getLsbD_ushiftRight]; exact h _ (by omega)]
    congr 1
    obtain ⟨y, hy, hy0⟩ : ∃ y : BitVec 32, x = (if x.getLsbD 0 then 1#32 else 0#32) ^^^ y ∧ y.getLsbD 0 = false := by
      refine ⟨(if x.getLsbD 0 then 1#32 else 0#32) ^^^ x, ?_, ?_⟩
      · rw [← BitVec.xor_assoc, BitVec.xor_self, BitVec.zero_xor]
      · rw [BitVec.getLsbD_xor]
        cases hb : x.getLsbD 0 <;> simp
    have e1 : x >>> 1 = y >>> 1 := by
      conv => lhs; rw [hy]
      rw [BitVec.ushiftRight_xor_distrib]
      split <;> simp
    have e2 : s ^^^ x = (s ^^^ (if x.getLsbD 0 then 1#32 else 0#32)) ^^^ y := by
      conv => lhs; rw [hy]
      ac_rfl
    rw [e1, e2, crcBit_xor, crcBit_even y hy0]
    rfl

theorem wd_high (c : UInt8) (i : Nat) (h : 8 ≤ i) : (wd c).getLsbD i = false := by
  unfold wd
  rw [BitVec.getLsbD_setWidth, BitVec.getLsbD_of_ge _ _ h]
  simp

theorem crcByte_feed (s : BitVec 32) (c : UInt8) : crcByte s c = feed s (bits8 c) := (feed_low 8 s (wd c) (wd_high c)).symm

theorem crcFold_feed (s : BitVec 32) (l : List UInt8) : crcFold s l = feed s (bitsOf l) := by
  induction l generalizing s with
  | nil => rfl
  | cons c l ih =>
    show crcFold (crcByte s c) l = feed s (bits8 c ++ bitsOf l)
    rw [ih, feed_append, crcByte_feed]

theorem feed_zeros (n : Nat) (s : BitVec 32) : feed s (List.replicate n false) = crcBits n s := by
  induction n generalizing s with
  | zero => rfl
  | succ n ih =>
    show feed (gbit s false) (List.replicate n false) = crcBits n (crcBit s)
    rw [ih]; congr 1; simp [gbit]

theorem gbit_xor (s t : BitVec 32) (a b : Bool) : gbit (s ^^^ t) (a ^^ b) = gbit s a ^^^ gbit t b := by
  unfold gbit
  rw [← crcBit_xor]
  congr 1
  cases a <;> cases b <;> simp
  · ac_rfl
  · ac_rfl
  · have : (s ^^^ 1#32) ^^^ (t ^^^ 1#32) = (s ^^^ t) ^^^ (1#32 ^^^ 1#32) := by ac_rfl
    rw [this, BitVec.xor_self, BitVec.xor_zero]

theorem feed_xor (a b : List Bool) (h : a.length = b.length) (s t : BitVec 32) : feed (s ^^^ t) (List.zipWith (· ^^ ·) a b) = feed s a ^^^ feed t b := by
  induction a generalizing b s t with
  | nil => cases b with
    | nil => rfl
    | cons _ _ => simp at h
  | cons x a ih =>
    cases b with
    | nil => simp at h
    | cons y b =>
      simp only [List.length_cons, Nat.add_right_cancel_iff] at h
      show feed (gbit (s ^^^ t) (x ^^ y)) _ = feed (gbit s x) a ^^^ feed (gbit t y) b
      rw [gbit_xor, ih b h]

theorem crcBits_add (m n : Nat) (s : BitVec 32) : crcBits n (crcBits m s) = crcBits (m + n) s := by
  induction m generalizing s with
  | zero => rw [Nat.zero_add]; rfl
  | succ m ih => rw [show m + 1 + n = (m + n) + 1 by omega]; simp only [crcBits]; exact ih _

/-- bits that are turned within a row of 32 turn what is fed -/
theorem turned (a : List Bool) (p q : Nat) (x : BitVec 32) (hx : x ≠ 0#32) (hl : a.length = p + 32 + q) (s : BitVec 32) :
    feed s (List.zipWith (· ^^ ·) a (List.replicate p false ++ low 32 x ++ List.replicate q false)) ≠ feed s a := by
  intro h
  have hx2 := feed_xor a (List.replicate p false ++ low 32 x ++ List.replicate q false) (by simp [low]; omega) s 0#32
  rw [BitVec.xor_zero, h] at hx2
  have hz : feed 0#32 (List.replicate p false ++ low 32 x ++ List.replicate q false) = 0#32 := by
    have := congrArg (feed s a ^^^ ·) hx2
    simp only [← BitVec.xor_assoc, BitVec.xor_self, BitVec.zero_xor] at this
    exact this.symm
  rw [feed_append, feed_append, feed_zeros, feed_zeros, feed_low 32 _ x fun i hi => BitVec.getLsbD_of_ge _ _ hi] at hz
  have h0 : crcBits p 0#32 = 0#32 := by
    clear hz hx2 h hl
    induction p with
    | zero => rfl
    | succ p ih => simpa [crcBits, crcBit] using ih
  rw [h0, BitVec.zero_xor] at hz
  exact hx (crcBits_inj0 _ _ (crcBits_inj0 _ _ hz))

/-- the four bytes of a word, the lowest first -/
def le4 (x : BitVec 32) : List UInt8 := [⟨x.setWidth 8⟩, ⟨(x >>> 8).setWidth 8⟩, ⟨(x >>> 16).setWidth 8⟩, ⟨(x >>> 24).setWidth 8⟩]
theorem bits_le4 (x : BitVec 32) : bitsOf (le4 x) = low 32 x := by
  apply List.ext_getElem
  · simp [bitsOf, le4, bits8, low]
  · intro i h1 h2
    have hi : i < 32 := by simpa [low] using h2
    have e : low 32 x = (List.range 32).map x.getLsbD := rfl
    simp only [bitsOf, le4, bits8, low, List.flatMap_cons, List.flatMap_nil, List.append_nil, wd]
    simp only [List.getElem_append, List.getElem_map, List.getElem_range, List.length_map, List.length_range, BitVec.getLsbD_setWidth, BitVec.getLsbD_ushiftRight, List.length_append]
    split
    · rename_i h; simp [h]; omega
    · split
      · rename_i h h'
        rw [show 8 + (i - 8) = i by omega]
        have : i - 8 < 8 := by omega
        simp [this]; omega
      · split
        · rename_i h h' h''
          rw [show 16 + (i - 8 - 8) = i by omega]
          have : i - 8 - 8 < 8 := by omega
          simp [this]; omega
        · rename_i h h' h''
          rw [show 24 + (i - 8 - 8 - 8) = i by omega]
          have : i - 8 - 8 - 8 < 8 := by omega
          simp [this]; omega

theorem crcFold_le4 (s x : BitVec 32) : crcFold s (le4 x) = crcBits 32 (s ^^^ x) := by
  rw [crcFold_feed, bits_le4, feed_low 32 s x fun i hi => BitVec.getLsbD_of_ge _ _ hi]

/-- a text with its own sum behind it has the sum of four noughts -/
theorem ends (l : List UInt8) : crcOf (l ++ le4 (crcOf l)) = crcOf [0, 0, 0, 0] := by
  have h0 : ([0, 0, 0, 0] : List UInt8) = le4 0#32 := by decide
  unfold crcOf
  rw [crcFold_append, crcFold_le4, h0, crcFold_le4, BitVec.xor_zero]
  generalize crcFold 4294967295#32 l = r
  have h1 : r ^^^ ~~~ r = 4294967295#32 := by
    rw [← BitVec.xor_allOnes (x := r), ← BitVec.xor_assoc, BitVec.xor_self, BitVec.zero_xor]
    rfl
  rw [h1]
end Go.Proofs.Ytoalihddfgehjaa
