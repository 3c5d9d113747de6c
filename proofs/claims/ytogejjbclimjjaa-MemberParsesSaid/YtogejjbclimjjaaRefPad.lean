/- r1.Pad. -/
--only r2
import Derived.Test.YtogejjbclimjjaaR1
import Derived.Test.YtogejjbclimjjaaOnly
namespace Go.Proofs.Ytogejjbclimjjaa
set_option linter.unusedVariables false
set_option linter.unusedSimpArgs false
open Go.RowKit

set_option maxRecDepth 100000 in
set_option maxHeartbeats 1000000 in
theorem pad_calls (v : Value) (l : List UInt8) (n : Nat) (w : World) (hv : RB w v l) (hl : l.length ≤ 100000000) (hn : n ≤ 100000000) :
    Calls Try.prog 39 #[v, .int .i64 n] w fun e w' => ∃ x, e = .returned x ∧ w'.ownsRow w.heap.size 5 1 x (l ++ List.replicate (n - l.length) 0).length ((l ++ List.replicate (n - l.length) 0).map u8v) ∧ Below w.heap.size w w' := by
  have hp := part_calls v l 0 l.length w hv (by omega) (by omega)
  obtain ⟨a, c, rfl, hlc, hm⟩ := hv.form
  obtain ⟨i, hi, hz0, hz1, hz2⟩ := info_parts infoU8
  go_enter Try.func39, Try.ntmps39
  go_wp2_with fail
  refine hp.mono ?_
  rintro e w1 ⟨x, rfl, hx, hb1⟩
  obtain ⟨ax, cx, rfl⟩ := own_slice hx
  clear hp
  have hx' : w1.ownsRow w.heap.size 5 1 (.slice ax l.length cx) l.length (l.map u8v) := by simpa using hx
  clear hx
  by_cases h : l.length < n
  · go_wp2_with fail
    rw [show ((n : Int) - (l.length : Int)) = ((n - l.length : Nat) : Int) by omega]
    obtain ⟨k, hk⟩ : ∃ k, k = n - l.length := ⟨_, rfl⟩
    rw [← hk]
    have HK := Lib.hid hk
    have hkn : k ≤ n := by omega
    clear hk
    refine (zeros_calls k w1 (by omega)).mono ?_
    rintro e w2 ⟨rfl, hw2⟩
    have hb2 : Below w1.heap.size w1 w2 := by rw [hw2]; exact (Below.refl _ _).alloc (Nat.le_refl _) _
    have hz : RB w2 (.slice (some ⟨w1.heap.size, 0, none⟩) k k) (List.replicate k 0) := by
      rw [hw2]
      exact RV.block (heap_new _ _) (by simp) (Nat.le_refl _) (by unfold maxLen; omega) (by simp)
    have hx2 := own_only (S := fun _ => False) hx' (Only.new hb2 _) (fun _ _ => id)
    have hz' : RV w2 (.slice (some ⟨w1.heap.size, 0, none⟩) k k) ((List.replicate k (0 : UInt8)).map u8v) := hz
    have hbase : w.heap.size ≤ w2.heap.size := Nat.le_trans hb1.size hb2.size
    have hs := hb1.size
    have hs2 := hb2.size
    have hml : ((List.replicate k (0 : UInt8)).map u8v).length = k := by simp
    have HML := Lib.hid hml
    clear hx' hw2 hml hz
    go_wp2_with (at_builtin; (refine wpList_append_row rfl _ _ 23 rfl w.heap.size 5 i (.int .u8 0) 1 Try.underlying23 hi hz0 hz1 hz2 rfl (.slice ax l.length cx) l.length (l.map u8v) rfl hx2 (.slice (some ⟨w1.heap.size, 0, none⟩) k k) ((List.replicate k (0 : UInt8)).map u8v) rfl hz' (oneCell_u8 _) ?c3 ?c4 hbase ?_))
    case c3 => rw [HML.out]; unfold maxLen; omega
    case c4 => rw [HML.out]; omega
    intro v' w3 hown hgrow hrow
    have hb3 := ((hb1.trans (hb2.mono hs)).grown hgrow hbase (fun b hb => (hx2.lt b hb).1))
    clear hgrow hrow hx2 hz'
    go_wp2_with fail
    go_ret
    refine ⟨_, rfl, ?_, hb3⟩
    rw [← HK.out, List.map_append, List.length_append, List.length_replicate]
    simpa using hown
  · go_wp2_with fail
    go_ret
    have h0 : n - l.length = 0 := by omega
    rw [h0, List.replicate_zero, List.append_nil]
    exact ⟨_, rfl, hx', hb1⟩

end Go.Proofs.Ytogejjbclimjjaa
