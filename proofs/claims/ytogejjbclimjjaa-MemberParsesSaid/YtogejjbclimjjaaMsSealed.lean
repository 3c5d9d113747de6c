/- Layer 12's answer: Sealed. -/
--only r2
import Derived.Test.YtogejjbclimjjaaRSeal
import Derived.Test.YtogejjbclimjjaaMsPage
namespace Go.Proofs.Ytogejjbclimjjaa
set_option linter.unusedVariables false
set_option linter.unusedSimpArgs false
open Go.RowKit

set_option maxRecDepth 100000 in
theorem mssealed_calls (S : Ms) (vd : Value) (d : List UInt8) (w : World) (hd : RB w vd d) (hdl : d.length ≤ 1000000) (hq : S.seq < 4294967296) :
    Calls Try.prog 15 #[vd, .int .i64 S.seq] w fun e w' => ∃ x, e = .returned x ∧ w'.ownsRow w.heap.size 5 1 x 64 ((sealB (msH S) d []).map u8v) ∧ Below w.heap.size w w' := by
  obtain ⟨a, c, rfl, -, -⟩ := hd.form
  have hse := rseal_nil (msH S) (msH_ok hq) _ d w hd hdl
  have HS := Lib.hid hse
  clear hse hd
  go_enter Try.func15, Try.ntmps15
  go_wp2_with fail
  refine HS.out.mono ?_
  rintro e w1 ⟨x, rfl, hx, hb⟩
  have HX := Lib.hid (⟨hx, hb⟩ : _ ∧ _)
  clear hx hb
  go_wp2_with fail
  go_ret
  exact ⟨_, rfl, HX.out⟩
end Go.Proofs.Ytogejjbclimjjaa
