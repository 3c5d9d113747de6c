/- gabionlaw12.of and same: the walks. -/
import Derived.Test.YtoalihddfgehjaaProg
import Derived.Test.YtoalihddfgehjaaMix
import Derived.Test.YtoalihddfgehjaaOnly
namespace Go.Proofs.Ytoalihddfgehjaa
set_option linter.unusedVariables false
set_option linter.unusedSimpArgs false
open Go.RowKit

abbrev mSetV (q : Int) (v : Value) (s d n : Int) : Value := .agg #[.int .u32 q, v, .int .i64 s, .int .i64 d, .int .i64 n]
abbrev rSetV (q : Int) (v : Value) (s d n : Int) : Value := .agg #[.int .i64 q, v, .int .i64 s, .int .i64 d, .int .i64 n]

set_option maxHeartbeats 1000000 in
theorem of_calls (q s d n : Int) (a : Option Addr) (k c : Nat) (w : World) (hq : 0 ≤ q ∧ q ≤ 4294967295) :
    Calls Try.prog 29 #[mSetV q (.slice a k c) s d n] w fun e w' => e = .returned (rSetV q (.slice a k c) s d n) ∧ Below w.heap.size w w' := by
  have hqq : IntKind.i64.wrap q = q := IntWalk.i64_in _ (by omega)
  go_enter Try.func29, Try.ntmps29
  go_wp2_with fail
  exact bodyPost_ret (v := rSetV q (.slice a k c) s d n) (by simp [results, Try.results29, go_sem]) rfl ⟨rfl, by go_grown⟩

set_option maxHeartbeats 4000000 in
theorem same_true (q s d n : Int) (xs : List Int) (v1 v2 : Value) (w : World) (h1 : RI w v1 xs) (h2 : RI w v2 xs) :
    Calls Try.prog 28 #[rSetV q v1 s d n, rSetV q v2 s d n] w fun e w' => e = .returned (.bool true) ∧ Below w.heap.size w w' := by
  obtain ⟨a1, c1, rfl, l1, m1, _⟩ := h1.shape
  obtain ⟨a2, c2, rfl, l2, m2, _⟩ := h2.shape
  have e1 : (q != q) = false := by simp
  have e2 : (s != s) = false := by simp
  have e3 : (d != d) = false := by simp
  have e4 : (n != n) = false := by simp
  have e5 : ((xs.length : Int) != (xs.length : Int)) = false := by simp
  go_enter Try.func28, Try.ntmps28
  go_wp2_with fail
  have hA : ((w.alloc (.cells #[.int .i64 q, .slice a1 xs.length c1, .int .i64 s, .int .i64 d, .int .i64 n] 45)).alloc (.cells #[.int .i64 q, .slice a2 xs.length c2, .int .i64 s, .int .i64 d, .int .i64 n] 45)).heap[w.heap.size]? =
    some (.cells #[.int .i64 q, .slice a1 xs.length c1, .int .i64 s, .int .i64 d, .int .i64 n] 45 (0, 0)) := heap_old _ (heap_is rfl)
  have hB : ((w.alloc (.cells #[.int .i64 q, .slice a1 xs.length c1, .int .i64 s, .int .i64 d, .int .i64 n] 45)).alloc (.cells #[.int .i64 q, .slice a2 xs.length c2, .int .i64 s, .int .i64 d, .int .i64 n] 45)).heap[w.heap.size + 1]? =
    some (.cells #[.int .i64 q, .slice a2 xs.length c2, .int .i64 s, .int .i64 d, .int .i64 n] 45 (0, 0)) := heap_is (by simp)
  have hbel := ((Below.refl w.heap.size w).alloc (Nat.le_refl _) (.cells #[.int .i64 q, .slice a1 xs.length c1, .int .i64 s, .int .i64 d, .int .i64 n] 45)).alloc (by simp) (.cells #[.int .i64 q, .slice a2 xs.length c2, .int .i64 s, .int .i64 d, .int .i64 n] 45)
  replace h1 := h1.below hbel
  replace h2 := h2.below hbel
  generalize (w.alloc (.cells #[.int .i64 q, .slice a1 xs.length c1, .int .i64 s, .int .i64 d, .int .i64 n] 45)).alloc (.cells #[.int .i64 q, .slice a2 xs.length c2, .int .i64 s, .int .i64 d, .int .i64 n] 45) = w1 at hA hB hbel h1 h2 ⊢
  clear e1 e2 e3 e4 e5
  go_loopw [5] (fun i wr => ∃ k : Nat, k ≤ xs.length ∧ i = .int .i64 k ∧ Below w1.heap.size w1 wr) (fun i _ => xs.length - (intOf i).toNat)
  case atStart => exact ⟨0, Nat.zero_le _, rfl, Below.refl _ _⟩
  case round =>
    obtain ⟨k, hk, rfl, hb⟩ := hrel
    have hb0 := hb
    ((try clear hA_0 hA_1 hA_2 hA_3 hA_4); (try clear hB_0 hB_1 hB_2 hB_3 hB_4); replace hbel := hbel.trans (hb.mono hbel.size); replace hA := heap_keep hb hA; replace hB := heap_keep hb hB; replace h1 := h1.below hb; replace h2 := h2.below hb; clear hb; have hA_0 := cells_at hA 0 _ rfl; have hA_1 := cells_at hA 1 _ rfl; have hA_2 := cells_at hA 2 _ rfl; have hA_3 := cells_at hA 3 _ rfl; have hA_4 := cells_at hA 4 _ rfl; have hB_0 := cells_at hB 0 _ rfl; have hB_1 := cells_at hB 1 _ rfl; have hB_2 := cells_at hB 2 _ rfl; have hB_3 := cells_at hB 3 _ rfl; have hB_4 := cells_at hB 4 _ rfl)
    by_cases hlt : k < xs.length
    · obtain ⟨b1, o1, _, ee1, _, _, r1⟩ := h1.out (by omega)
      obtain ⟨b2, o2, _, ee2, _, _, r2⟩ := h2.out (by omega)
      simp only [Value.slice.injEq] at ee1 ee2
      obtain ⟨rfl, -, -⟩ := ee1
      obtain ⟨rfl, -, -⟩ := ee2
      replace r1 := r1 k hlt
      replace r2 := r2 k hlt
      generalize xs[k] = x at r1 r2
      have ex : (x != x) = false := by simp
      go_wp2_with fail
      (refine wp_region_mix [0, 1, 2, 3, 4, 5, 6, 7, 8, 9, 10] [(true, true), (true, false), (true, true), (true, true), (true, false), (true, true), (true, false), (true, true), (true, true), (true, false), (true, true)] [0, 1, 0, 7, 15, 0, 32, 0, 224, 480, 1023] _ (by kernel_rfl) (by kernel_rfl) (rfl : _ = _) ?_; simp only [pickL, List.map_cons, List.map_nil, List.getD_cons_succ, List.getD_cons_zero])
      (repeat (first | (refine mix_pure (fun hne K hK => ?_); go_simp; refine hK _ ?_; clear hK K hne) | (refine mix_load ?_ (fun K hK => ?_); (focus (first | rfl | (go_simp; done))); go_simp; refine hK _ ?_; clear hK K) | (refine mix_skip ?_ (fun K hK => ?_); (focus (first | rfl | (go_simp; done))); go_simp; refine hK _ ?_; clear hK K)))
      refine mix_done ?_
      go_wp2_with fail
      go_roundw
      case rel => exact ⟨k + 1, by omega, by go_num, hb0.drew⟩
      case measure => simp [intOf]; omega
    · go_wp2_with fail
      go_ret
      exact ⟨rfl, hbel⟩
end Go.Proofs.Ytoalihddfgehjaa
