/- Bits of a text turned, one by one: what the sum sees of it. No program in sight. -/
import Derived.Test.YtoalihddfgehjaaCrcBits
namespace Go.Proofs.Ytoalihddfgehjaa
set_option linter.unusedVariables false
set_option linter.unusedSimpArgs false

def flipAt (l : List UInt8) (n : Nat) : List UInt8 := l.set (n / 8) (l.getD (n / 8) 0 ^^^ UInt8.ofNat (2 ^ (n % 8)))
def turnN (l : List UInt8) (p : Nat) (x : BitVec 32) : Nat → List UInt8
  | 0 => l
  | i + 1 => if x.getLsbD i then flipAt (turnN l p x i) (p + i) else turnN l p x i
theorem flipAt_length (l : List UInt8) (n : Nat) : (flipAt l n).length = l.length := by simp [flipAt]
theorem turnN_length (l : List UInt8) (p : Nat) (x : BitVec 32) (i : Nat) : (turnN l p x i).length = l.length := by
  induction i with
  | zero => rfl
  | succ i ih => unfold turnN; split <;> simp [flipAt_length, ih]

def gb (l : List UInt8) (j : Nat) : Bool := (l.getD (j / 8) 0).toBitVec.getLsbD (j % 8)
theorem gb_cons (c : UInt8) (l : List UInt8) (j : Nat) : gb (c :: l) (8 + j) = gb l j := by
  unfold gb
  rw [show (8 + j) / 8 = j / 8 + 1 by omega, show (8 + j) % 8 = j % 8 by omega]
  rfl
theorem gb_head (c : UInt8) (l : List UInt8) (j : Nat) (h : j < 8) : gb (c :: l) j = (wd c).getLsbD j := by
  unfold gb
  rw [show j / 8 = 0 by omega, show j % 8 = j by omega]
  simp [wd]; omega
theorem bitsOf_eq (l : List UInt8) : bitsOf l = (List.range (8 * l.length)).map (gb l) := by
  induction l with
  | nil => rfl
  | cons c l ih =>
    show bits8 c ++ bitsOf l = _
    rw [ih, List.length_cons, show 8 * (l.length + 1) = 8 + 8 * l.length by omega, List.range_add, List.map_append, List.map_map]
    have e1 : bits8 c = (List.range 8).map (gb (c :: l)) := by
      unfold bits8 low
      apply List.map_congr_left
      intro j hj
      rw [gb_head c l j (by simpa using hj)]
    have e2 : (List.range (8 * l.length)).map (gb l) = (List.range (8 * l.length)).map (gb (c :: l) ∘ fun x => 8 + x) := by
      apply List.map_congr_left
      intro j hj
      exact (gb_cons c l j).symm
    rw [e1, e2]

theorem bit_pow : ∀ m : Fin 8, ∀ k : Fin 8, (UInt8.ofNat (2 ^ m.val)).toBitVec.getLsbD k.val = decide (k.val = m.val) := by decide
theorem gb_flip (l : List UInt8) (n j : Nat) (hn : n < 8 * l.length) : gb (flipAt l n) j = (gb l j ^^ decide (j = n)) := by
  unfold gb flipAt
  by_cases h : j / 8 = n / 8
  · have e : (l.set (n / 8) (l.getD (n / 8) 0 ^^^ UInt8.ofNat (2 ^ (n % 8)))).getD (j / 8) 0 = l.getD (j / 8) 0 ^^^ UInt8.ofNat (2 ^ (n % 8)) := by
      rw [h]
      simp only [List.getD, List.getElem?_set, if_true]
      rw [if_pos (by omega)]; rfl
    rw [e]
    have e2 := bit_pow ⟨n % 8, by omega⟩ ⟨j % 8, by omega⟩
    rw [show (l.getD (j / 8) 0 ^^^ UInt8.ofNat (2 ^ (n % 8))).toBitVec = (l.getD (j / 8) 0).toBitVec ^^^ (UInt8.ofNat (2 ^ (n % 8))).toBitVec from rfl, BitVec.getLsbD_xor]
    show (_ ^^ (UInt8.ofNat (2 ^ (n % 8))).toBitVec.getLsbD (j % 8)) = _
    rw [e2]
    congr 1
    simp only [decide_eq_decide]
    omega
  · have e : (l.set (n / 8) (l.getD (n / 8) 0 ^^^ UInt8.ofNat (2 ^ (n % 8)))).getD (j / 8) 0 = l.getD (j / 8) 0 := by
      simp only [List.getD, List.getElem?_set]
      rw [if_neg (Ne.symm h)]
    rw [e, decide_eq_false (by intro h'; subst h'; exact h rfl)]
    simp

theorem gb_turn (l : List UInt8) (p : Nat) (x : BitVec 32) (i j : Nat) (h : p + i ≤ 8 * l.length) : gb (turnN l p x i) j = (gb l j ^^ (decide (p ≤ j ∧ j < p + i) && x.getLsbD (j - p))) := by
  induction i with
  | zero =>
    rw [decide_eq_false (by omega)]; simp [turnN]
  | succ i ih =>
    have ih := ih (by omega)
    unfold turnN
    split
    · rename_i hx
      rw [gb_flip _ _ _ (by rw [turnN_length]; omega), ih]
      by_cases hj : j = p + i
      · subst hj
        rw [decide_eq_false (by omega : ¬ (p ≤ p + i ∧ p + i < p + i)), decide_eq_true (by omega : p ≤ p + i ∧ p + i < p + (i + 1)), Nat.add_sub_cancel_left, hx]
        simp
      · rw [decide_eq_false hj]
        have : decide (p ≤ j ∧ j < p + i) = decide (p ≤ j ∧ j < p + (i + 1)) := by simp only [decide_eq_decide]; omega
        rw [this]; simp
    · rename_i hx
      rw [ih]
      by_cases hj : j = p + i
      · subst hj
        rw [decide_eq_false (by omega : ¬ (p ≤ p + i ∧ p + i < p + i)), Nat.add_sub_cancel_left]
        simp [hx]
      · have : decide (p ≤ j ∧ j < p + i) = decide (p ≤ j ∧ j < p + (i + 1)) := by simp only [decide_eq_decide]; omega
        rw [this]

theorem bits_turn (l : List UInt8) (p q : Nat) (x : BitVec 32) (h : 8 * l.length = p + 32 + q) :
    bitsOf (turnN l p x 32) = List.zipWith (· ^^ ·) (bitsOf l) (List.replicate p false ++ low 32 x ++ List.replicate q false) := by
  have hl : (low 32 x).length = 32 := by simp [low]
  apply List.ext_getElem
  · rw [bitsOf_eq, bitsOf_eq]; simp [turnN_length, hl]; omega
  · intro j h1 h2
    have hj : j < p + 32 + q := by rw [bitsOf_eq] at h1; simp [turnN_length] at h1; omega
    rw [List.getElem_zipWith]
    have e1 : (bitsOf (turnN l p x 32))[j] = gb (turnN l p x 32) j := by simp [bitsOf_eq]
    have e2 : (bitsOf l)[j]'(by rw [bitsOf_eq]; simp; omega) = gb l j := by simp [bitsOf_eq]
    rw [e1, e2, gb_turn l p x 32 j (by omega)]
    congr 1
    rcases Nat.lt_or_ge j p with hp | hp
    · rw [List.getElem_append_left (by simp [hl]; omega), List.getElem_append_left (by simp; omega)]
      rw [decide_eq_false (by omega)]; simp
    · rcases Nat.lt_or_ge j (p + 32) with hq | hq
      · rw [List.getElem_append_left (by simp [hl]; omega), List.getElem_append_right (by simp; omega)]
        rw [decide_eq_true (by omega)]; simp [low]
      · rw [List.getElem_append_right (by simp [hl]; omega)]
        rw [decide_eq_false (by omega)]; simp

theorem turned_sum (l : List UInt8) (p : Nat) (x : BitVec 32) (hx : x ≠ 0#32) (h : p + 32 ≤ 8 * l.length) : crcOf (turnN l p x 32) ≠ crcOf l := by
  intro he
  unfold crcOf at he
  have he := congrArg (fun y : BitVec 32 => ~~~ y) he
  simp only [BitVec.not_not] at he
  rw [crcFold_feed, crcFold_feed, bits_turn l p (8 * l.length - p - 32) x (by omega)] at he
  exact turned (bitsOf l) p (8 * l.length - p - 32) x hx (by rw [bitsOf_eq]; simp; omega) _ he
end Go.Proofs.Ytoalihddfgehjaa
