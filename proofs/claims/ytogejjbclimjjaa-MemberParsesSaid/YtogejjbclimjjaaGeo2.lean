/- api.Geo: may a shape be? How many blocks are given out. -/
--only r2
import Derived.Test.YtogejjbclimjjaaOnly
import Derived.Test.YtogejjbclimjjaaR1
namespace Go.Proofs.Ytogejjbclimjjaa
set_option linter.unusedVariables false
set_option linter.unusedSimpArgs false
open Go.RowKit

def geoOk (c b p s : Int) : Prop := 3 ≤ c ∧ c ≤ 16 ∧ 16 ≤ b ∧ b ≤ 64 ∧ 4 ≤ p ∧ p ≤ 32 ∧ 256 ≤ s ∧ s ≤ 1024 ∧ s % 64 = 0
instance (c b p s : Int) : Decidable (geoOk c b p s) := by unfold geoOk; infer_instance
abbrev geoV (c b p s : Int) : Value := .agg #[.int .i64 c, .int .i64 b, .int .i64 p, .int .i64 s]
def CheckEnds (c b p s : Int) (w : World) (e : Ending) (w' : World) : Prop := e = .returned (.int .i64 (if geoOk c b p s then 0 else 34)) ∧ Below w.heap.size w w'

set_option maxRecDepth 100000 in
set_option maxHeartbeats 2000000 in
theorem gcheck_calls (c b p s : Int) (w : World) : Calls Try.prog 59 #[geoV c b p s] w (CheckEnds c b p s w) := by
  have hbel := (Below.refl w.heap.size w).alloc (Nat.le_refl _) (.cells #[.int .i64 c, .int .i64 b, .int .i64 p, .int .i64 s] 28)
  have hyes : geoOk c b p s → CheckEnds c b p s w (.returned (.int .i64 0)) (w.alloc (.cells #[.int .i64 c, .int .i64 b, .int .i64 p, .int .i64 s] 28)) := fun h => ⟨by rw [if_pos h], hbel⟩
  have hno : ¬ geoOk c b p s → CheckEnds c b p s w (.returned (.int .i64 34)) (w.alloc (.cells #[.int .i64 c, .int .i64 b, .int .i64 p, .int .i64 s] 28)) := fun h => ⟨by rw [if_neg h], hbel⟩
  clear hbel
  generalize CheckEnds c b p s w = Post at hyes hno ⊢
  have HY := Lib.hid hyes
  have HN := Lib.hid hno
  clear hyes hno
  by_cases h : geoOk c b p s
  · have HX := Lib.hid (HY.out h)
    obtain ⟨h1, h2, h3, h4, h5, h6, h7, h8, h9⟩ := h
    have d1 : decide (c < 3) = false := by simp; omega
    have d2 : decide (16 < c) = false := by simp; omega
    have d3 : decide (b < 16) = false := by simp; omega
    have d4 : decide (64 < b) = false := by simp; omega
    have d5 : decide (p < 4) = false := by simp; omega
    have d6 : decide (32 < p) = false := by simp; omega
    have d7 : decide (s < 256) = false := by simp; omega
    have d8 : decide (1024 < s) = false := by simp; omega
    have d9 : s.tmod 64 = 0 := by rw [Int.tmod_eq_emod_of_nonneg (by omega)]; exact h9
    go_enter Try.func59, Try.ntmps59
    go_wp2_with fail
    exact HX.out
  · have HX := Lib.hid (HN.out h)
    have hbad : c < 3 ∨ (¬ c < 3 ∧ 16 < c) ∨ (¬ c < 3 ∧ ¬ 16 < c ∧ b < 16) ∨ (¬ c < 3 ∧ ¬ 16 < c ∧ ¬ b < 16 ∧ 64 < b) ∨ (¬ c < 3 ∧ ¬ 16 < c ∧ ¬ b < 16 ∧ ¬ 64 < b ∧ p < 4) ∨ (¬ c < 3 ∧ ¬ 16 < c ∧ ¬ b < 16 ∧ ¬ 64 < b ∧ ¬ p < 4 ∧ 32 < p) ∨ (¬ c < 3 ∧ ¬ 16 < c ∧ ¬ b < 16 ∧ ¬ 64 < b ∧ ¬ p < 4 ∧ ¬ 32 < p ∧ s < 256) ∨ (¬ c < 3 ∧ ¬ 16 < c ∧ ¬ b < 16 ∧ ¬ 64 < b ∧ ¬ p < 4 ∧ ¬ 32 < p ∧ ¬ s < 256 ∧ 1024 < s) ∨ (¬ c < 3 ∧ ¬ 16 < c ∧ ¬ b < 16 ∧ ¬ 64 < b ∧ ¬ p < 4 ∧ ¬ 32 < p ∧ ¬ s < 256 ∧ ¬ 1024 < s ∧ ¬ s % 64 = 0) := by
      unfold geoOk at h; omega
    clear h
    rcases hbad with h1 | ⟨h1, h2⟩ | ⟨h1, h2, h3⟩ | ⟨h1, h2, h3, h4⟩ | ⟨h1, h2, h3, h4, h5⟩ | ⟨h1, h2, h3, h4, h5, h6⟩ | ⟨h1, h2, h3, h4, h5, h6, h7⟩ | ⟨h1, h2, h3, h4, h5, h6, h7, h8⟩ | ⟨h1, h2, h3, h4, h5, h6, h7, h8, h9⟩
    all_goals
      try have e9 : (s % 64 != 0) = true := by rw [bne_iff_ne]; exact h9
      try have e1 := decide_eq_false h1
      try have e2 := decide_eq_false h2
      try have e3 := decide_eq_false h3
      try have e4 := decide_eq_false h4
      try have e5 := decide_eq_false h5
      try have e6 := decide_eq_false h6
      try have e7 := decide_eq_false h7
      try have e8 := decide_eq_false h8
      go_enter Try.func59, Try.ntmps59
      go_wp2_with fail
      exact HX.out
end Go.Proofs.Ytogejjbclimjjaa
