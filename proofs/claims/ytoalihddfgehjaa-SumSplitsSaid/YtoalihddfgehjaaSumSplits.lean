/- SumSplits: the walk. -/
import Derived.Test.YtoalihddfgehjaaKnown
import Derived.RegionTactic
import Derived.BigRegion
import Derived.Deep.RegionWith
namespace Go.Proofs.Ytoalihddfgehjaa.lawSumSplits
set_option linter.unusedVariables false
set_option linter.unusedSimpArgs false
open Go.RowKit Go.ChangeShapes Go.WideShapes

theorem sum_any (v : Value) (l l1 l2 : List UInt8) (he : Hid (crcOf [l1, [], l2, []].flatten = crcOf [l].flatten)) (w : World) (h : RBB w v [l] ∨ RBB w v [l1, [], l2, []]) :
    Calls Try.prog 20 #[v] w fun e w' => e = .returned (u32v (crcOf [l].flatten)) ∧ w = w' := by
  rcases h with h | h
  · exact sum_of v _ w h
  · rw [← he.out]; exact sum_of v _ w h

set_option maxHeartbeats 2000000 in
theorem law (v : Value) (l : List UInt8) (c : Int) (w : World) (hv : RB w v l) (hc : I64 c) :
    Calls Try.prog 8 #[v, .int .i64 c] w fun e w' => e = .returned (.bool true) ∧ Below w.heap.size w w' := by
  have hlm := hv.len
  obtain ⟨a, cap, rfl, hcap, hm⟩ := hv.form
  unfold maxLen at hm hlm
  obtain ⟨i, hi, hz0, hz1, hz2⟩ := info_parts infoU8
  by_cases hl : 600 < l.length
  · go_enter Try.func8, Try.ntmps8
    go_wp2_with fail
    refine (known_calls _).mono ?_
    rintro e w1 ⟨rfl, hb1⟩
    go_wp2_with fail
    refine (known_calls _).mono ?_
    rintro e w2 ⟨rfl, hb2⟩
    go_wp2_with fail
    go_ret
    exact ⟨rfl, hb1.trans (hb2.mono hb1.size)⟩
  · obtain ⟨k, hk, hke⟩ := pick_eq c (l.length + 1) (by omega) (by omega)
    rw [Int.natCast_add, Int.natCast_one] at hke
    have hc1 := RV.cut hv (i := 0) (j := k) (by omega) (by simp; omega)
    have hc2 := RV.cut hv (i := k) (j := l.length) (by omega) (by simp)
    have hr1 := run_cut_to Try.underlying22 hi hz1 a l.length cap k (by omega)
    have hr2 := run_cut_from Try.underlying22 hi hz1 a l.length cap k (by omega)
    have hb1 : RB w (cutV a cap 0 k) (l.take k) := by
      have e : ((l.map u8v).drop 0).take (k - 0) = (l.take k).map u8v := by simp [List.map_take]
      rw [e] at hc1; exact hc1
    have hb2 : RB w (cutV a cap k l.length) (l.drop k) := by
      have e : ((l.map u8v).drop k).take (l.length - k) = (l.drop k).map u8v := by rw [List.take_of_length_le (by simp), List.map_drop]
      rw [e] at hc2; exact hc2
    obtain ⟨y1, hy1⟩ : ∃ y, y = cutV a cap 0 k := ⟨_, rfl⟩
    obtain ⟨y2, hy2⟩ : ∃ y, y = cutV a cap k l.length := ⟨_, rfl⟩
    rw [← hy1] at hb1 hr1
    rw [← hy2] at hb2 hr2
    have heq : crcOf [l.take k, [], l.drop k, []].flatten = crcOf [l].flatten := by simp
    clear hy1 hy2 hc1 hc2
    obtain ⟨a1, n1, k1, rfl⟩ : ∃ a n k, y1 = .slice a n k := by obtain ⟨a, k, h, _⟩ := hb1.form; exact ⟨_, _, _, h⟩
    obtain ⟨a2, n2, k2, rfl⟩ : ∃ a n k, y2 = .slice a n k := by obtain ⟨a, k, h, _⟩ := hb2.form; exact ⟨_, _, _, h⟩
    go_enter Try.func8, Try.ntmps8
    go_wp2_with fail
    refine (known_calls _).mono ?_
    rintro e w1 ⟨rfl, hb1'⟩
    go_wp2_with fail
    have hA : RB w1 (.slice a l.length cap) l := hv.below hb1'
    have hB := hb1.below hb1'
    have hC := hb2.below hb1'
    have HE := Lib.hid heq
    clear heq hv hb1 hb2 hk hl hlm hcap hm hc hi hz0 hz1 hz2
    go_region_with (go_at_call 20; refine (sum_any _ l _ _ HE _ (by first | exact .inl (RBB.cell1 (by simp) (hA.below (by go_grown))) | exact .inr (RBB.cell4 (by simp) (by simp) (by simp) (by simp) (hB.below (by go_grown)) (RB.nil _) (hC.below (by go_grown)) (RB.nil _)))).mono ?_; rintro e w2 ⟨rfl, rfl⟩)
    all_goals
      go_wp2_with fail
      go_ret
      exact ⟨rfl, hb1'.trans (Below.mono (B := w1.heap.size) (by go_grown) hb1'.size)⟩

theorem walk {H : Type} (enc : TypeId × Value → H) (W : World) (base : Nat) (v0 : Value) (d0 : DataW H) (p0 : List MemPlace)
    (hv0 : Value.okWide Try.prog W .any base 22 v0) (h0 : DataW.Trod enc Try.prog W 0 (fun _ => true) true 22 v0 d0 p0)
    (v1 : Value) (d1 : DataW H) (p1 : List MemPlace)
    (hv1 : Value.okWide Try.prog W .any base 3 v1) (h1 : DataW.Trod enc Try.prog W 0 (fun _ => true) true 3 v1 d1 p1)
    (_hsz : (DataW.weightsEach Try.prog [22, 3] [d0, d1]).all (· ≤ reachBytes) = true) :
    Calls Try.prog 8 #[v0, v1] W fun e W' => e = .returned (.bool true) ∧ Below W.heap.size W W' := by
  obtain ⟨l, hl⟩ := open_bytes h0 (okWide_slice Try.underlying22 hv0)
  obtain ⟨c, rfl, _, _, wc⟩ := open_int Try.underlying3 hv1 h1
  exact law v0 l c W hl (lit_i64 wc)
end Go.Proofs.Ytoalihddfgehjaa.lawSumSplits
