/- Layer 1's answer: Int. -/
--only r2
import Derived.Test.YtogejjbclimjjaaRefNum
namespace Go.Proofs.Ytogejjbclimjjaa
set_option linter.unusedVariables false
set_option linter.unusedSimpArgs false
open Go.RowKit

set_option maxRecDepth 100000 in
theorem int_calls (v : Value) (l : List UInt8) (k n : Nat) (w : World) (h : RB w v l) (hn : k + n ≤ l.length) (h4 : n ≤ 4) :
    Calls Try.prog 50 #[v, .int .i64 k, .int .i64 n] w fun e w' => e = .returned (.int .i64 (leNum ((l.drop k).take n) : Nat)) ∧ w = w' := by
  have hnum := num_calls v l k n w h hn (by omega)
  obtain ⟨N, hN⟩ : ∃ N, N = leNum ((l.drop k).take n) := ⟨_, rfl⟩
  have hlt : N < 4294967296 := by
    have h1 := leNum_lt ((l.drop k).take n)
    have h2 : ((l.drop k).take n).length ≤ 4 := by simp; omega
    have h3 : 256 ^ ((l.drop k).take n).length ≤ 256 ^ 4 := Nat.pow_le_pow_right (by omega) h2
    omega
  rw [← hN] at hnum ⊢
  have ew : IntKind.i64.wrap (N : Int) = (N : Int) := IntWalk.i64_in _ (by omega)
  have HN := Lib.hid hnum
  clear hnum hN
  go_enter Try.func50, Try.ntmps50
  go_wp2_with fail
  refine HN.out.mono ?_
  rintro e w1 ⟨rfl, rfl⟩
  go_wp2_with fail
  go_ret
  exact ⟨rfl, rfl⟩
end Go.Proofs.Ytogejjbclimjjaa
