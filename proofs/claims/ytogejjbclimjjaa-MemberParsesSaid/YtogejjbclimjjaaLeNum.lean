/- Numbers and their bytes. -/
--only r2
import Derived.Test.YtogejjbclimjjaaReader
namespace Go.Proofs.Ytogejjbclimjjaa
set_option linter.unusedVariables false
set_option linter.unusedSimpArgs false
open Go.RowKit

theorem leNum_one (c : UInt8) : leNum [c] = c.toNat := by simp [leNum]
theorem leNum_le (n v : Nat) (h : v < 256 ^ n) : leNum (leBytes n v) = v := by
  induction n generalizing v with
  | zero => simp only [Nat.pow_zero] at h; simp [leBytes, leNum]; omega
  | succ n ih =>
    rw [Nat.pow_succ] at h
    simp only [leBytes, leNum]
    rw [ih (v / 256) (by omega), u8_mod]
    omega
theorem le_leNum (l : List UInt8) : leBytes l.length (leNum l) = l := by
  induction l with
  | nil => rfl
  | cons c l ih =>
    have hc := c.toNat_lt
    simp only [List.length_cons, leBytes, leNum]
    have h1 : (c.toNat + 256 * leNum l) % 256 = c.toNat := by omega
    have h2 : (c.toNat + 256 * leNum l) / 256 = leNum l := by omega
    rw [h1, h2, ih]
    congr 1
    simp
end Go.Proofs.Ytogejjbclimjjaa
