/- Sets of members: the law's shape, of, same; First. -/
--only r2
import Derived.Test.YtogejjbclimjjaaMemSpec
import Derived.Test.YtogejjbclimjjaaTabOf
import Derived.Test.YtogejjbclimjjaaTabDec
namespace Go.Proofs.Ytogejjbclimjjaa
set_option linter.unusedVariables false
set_option linter.unusedSimpArgs false
open Go.RowKit

theorem mshape_calls (n : Int) (w : World) : ∃ k : Nat, k < 14 ∧ (n = 0 → k = 0) ∧ Calls Try.prog 10 #[.int .i64 n] w fun e w' => e = .returned (geoV (3 + k : Nat) (20 : Nat) (6 : Nat) (256 : Nat)) ∧ Below w.heap.size w w' := by
  obtain ⟨j, hj, hpick⟩ := pick_eq n 14 (by omega) (by omega)
  rw [show ((14 : Nat) : Int) = 14 from rfl] at hpick
  refine ⟨j, hj, fun h => ?_, ?_⟩
  · subst h
    rw [IntKind.wrap_u64] at hpick
    unfold wrap64 at hpick
    have e : ((0 : Int) % 18446744073709551616).tmod 14 = 0 := by decide
    rw [e] at hpick
    omega
  have hbel := (Below.refl w.heap.size w).alloc (Nat.le_refl _) (.cells #[.int .i64 (3 + (j : Int)), .int .i64 20, .int .i64 6, .int .i64 256] 28)
  have hR : (w.alloc (.cells #[.int .i64 (3 + (j : Int)), .int .i64 20, .int .i64 6, .int .i64 256] 28)).heap[w.heap.size]? = some (.cells #[.int .i64 (3 + (j : Int)), .int .i64 20, .int .i64 6, .int .i64 256] 28 (0, 0)) := heap_is rfl
  go_enter Try.func10, Try.ntmps10
  go_wp2_with fail
  refine bodyPost_ret (res_c rfl rfl hR Try.underlying28 rfl (by kernel_rfl)) rfl ⟨?_, hbel⟩
  rw [show ((20 : Nat) : Int) = 20 from rfl, show ((6 : Nat) : Int) = 6 from rfl, show ((256 : Nat) : Int) = 256 from rfl, Int.natCast_add]; rfl

/-- a set as the document has it -/
structure RMsAt (w : World) (S : Ms) (v : Value) : Prop where
  ex : ∃ vc, v = .agg #[.int .i64 S.seq, vc, .int .i64 S.spare, .int .i64 S.dead, .int .i64 S.done] ∧ RI w vc S.chips
theorem RMsAt.below {w w' : World} {S : Ms} {v : Value} (h : RMsAt w S v) (hb : Below w.heap.size w w') : RMsAt w' S v := by
  obtain ⟨vc, e, h1⟩ := h.ex
  exact ⟨vc, e, h1.below hb⟩

set_option maxRecDepth 100000 in
set_option maxHeartbeats 1000000 in
theorem msof_calls (S : Ms) (v : Value) (w : World) (hS : MsAt w S v) :
    Calls Try.prog 12 #[S.val v] w fun e w' => ∃ x, e = .returned x ∧ RMsAt w' S x ∧ Below w.heap.size w w' := by
  obtain ⟨a, c, rfl, hl1, hl2⟩ := hS.c.form
  obtain ⟨q, hq⟩ : ∃ q, q = w.heap.size := ⟨_, rfl⟩
  obtain ⟨w1, hw1⟩ : ∃ w1, w1 = (w.alloc (.cells (S.cells (.slice a S.chips.length c)) 37)).alloc (.cells #[.int .i64 0, .slice none 0 0, .int .i64 0, .int .i64 0, .int .i64 0] 33) := ⟨_, rfl⟩
  have hal : Below w.heap.size w w1 := by rw [hw1]; exact ((Below.refl w.heap.size w).alloc (Nat.le_refl _) _).alloc (by simp) _
  have hQ : w1.heap[q]? = some (.cells (S.cells (.slice a S.chips.length c)) 37 (0, 0)) := by rw [hw1]; exact heap_old _ (heap_is hq)
  have hR : w1.heap[q + 1]? = some (.cells #[.int .i64 0, .slice none 0 0, .int .i64 0, .int .i64 0, .int .i64 0] 33 (0, 0)) := by rw [hw1]; exact heap_is (by simp [hq])
  unfold Ms.cells at hw1 hQ
  have HW := Lib.hid hw1
  have hseq := hS.seq
  have ew : IntKind.i64.wrap (S.seq : Int) = (S.seq : Int) := IntWalk.i64_in _ ⟨by omega, by omega⟩
  have hb2 := put5 hal (q + 1) (.int .i64 S.seq) (.slice a S.chips.length c) (.int .i64 S.spare) (.int .i64 S.dead) (.int .i64 S.done) (by omega)
  have hset := set5 (.int .i64 S.seq) (.slice a S.chips.length c) (.int .i64 S.spare) (.int .i64 S.dead) (.int .i64 S.done) hR
  have HX := Lib.hid (⟨hset, hb2, hS.c.below hb2⟩ : _ ∧ _ ∧ _)
  have p0 := cells_at hQ 0 _ rfl
  have p1 := cells_at hQ 1 _ rfl
  have p2 := cells_at hQ 2 _ rfl
  have p3 := cells_at hQ 3 _ rfl
  have p4 := cells_at hQ 4 _ rfl
  have r0 := cells_at hR 0 _ rfl
  have r1 := cells_at hR 1 _ rfl
  have r2 := cells_at hR 2 _ rfl
  have r3 := cells_at hR 3 _ rfl
  have r4 := cells_at hR 4 _ rfl
  have f0 := froz_at hR 0
  have f1 := froz_at hR 1
  have f2 := froz_at hR 2
  have f3 := froz_at hR 3
  have f4 := froz_at hR 4
  simp only [List.getElem_toArray, List.getElem_cons_succ, List.getElem_cons_zero] at p0 p1 p2 p3 p4 r0 r1 r2 r3 r4
  have hlq := heap_lt hQ
  have hlr := heap_lt hR
  clear hw1 hal hS hQ hR hset hb2
  unfold Ms.val Ms.cells
  go_enter Try.func12, Try.ntmps12
  go_upto_region 1 with (fail)
  rw [← hq, ← HW.out]
  clear hq HW
  go_wp2_with fail
  refine bodyPost_ret (res_c rfl rfl HX.out.1 Try.underlying33 rfl (by kernel_rfl)) rfl ⟨_, rfl, ⟨_, rfl, HX.out.2.2⟩, HX.out.2.1⟩

set_option maxRecDepth 100000 in
set_option maxHeartbeats 1000000 in
theorem msame_calls (S : Ms) (va vb : Value) (w : World) (ha : RMsAt w S va) (hb : RMsAt w S vb) (hl : S.chips.length ≤ 100000) :
    Calls Try.prog 18 #[va, vb] w fun e w' => e = .returned (.bool true) ∧ Below w.heap.size w w' := by
  obtain ⟨v1, rfl, h1⟩ := ha.ex
  obtain ⟨v2, rfl, h2⟩ := hb.ex
  obtain ⟨a1, c1, rfl, -, -⟩ := h1.form
  obtain ⟨a2, c2, rfl, -, -⟩ := h2.form
  obtain ⟨q, hq⟩ : ∃ q, q = w.heap.size := ⟨_, rfl⟩
  obtain ⟨w1, hw1⟩ : ∃ w1, w1 = (w.alloc (.cells #[.int .i64 S.seq, .slice a1 S.chips.length c1, .int .i64 S.spare, .int .i64 S.dead, .int .i64 S.done] 33)).alloc (.cells #[.int .i64 S.seq, .slice a2 S.chips.length c2, .int .i64 S.spare, .int .i64 S.dead, .int .i64 S.done] 33) := ⟨_, rfl⟩
  have hal : Below w.heap.size w w1 := by rw [hw1]; exact ((Below.refl w.heap.size w).alloc (Nat.le_refl _) _).alloc (by simp) _
  have hQ : w1.heap[q]? = some (.cells #[.int .i64 S.seq, .slice a1 S.chips.length c1, .int .i64 S.spare, .int .i64 S.dead, .int .i64 S.done] 33 (0, 0)) := by rw [hw1]; exact heap_old _ (heap_is hq)
  have hR : w1.heap[q + 1]? = some (.cells #[.int .i64 S.seq, .slice a2 S.chips.length c2, .int .i64 S.spare, .int .i64 S.dead, .int .i64 S.done] 33 (0, 0)) := by rw [hw1]; exact heap_is (by simp [hq])
  have HW := Lib.hid hw1
  have HX := Lib.hid (⟨hal, hQ, hR, h1.below hal, h2.below hal⟩ : _ ∧ _ ∧ _ ∧ _ ∧ _)
  have p0 := cells_at hQ 0 _ rfl
  have p1 := cells_at hQ 1 _ rfl
  have p2 := cells_at hQ 2 _ rfl
  have p3 := cells_at hQ 3 _ rfl
  have p4 := cells_at hQ 4 _ rfl
  have r0 := cells_at hR 0 _ rfl
  have r1 := cells_at hR 1 _ rfl
  have r2 := cells_at hR 2 _ rfl
  have r3 := cells_at hR 3 _ rfl
  have r4 := cells_at hR 4 _ rfl
  simp only [List.getElem_toArray, List.getElem_cons_succ, List.getElem_cons_zero] at p0 p1 p2 p3 p4 r0 r1 r2 r3 r4
  have hlq := heap_lt hQ
  have hlr := heap_lt hR
  clear hw1 hal hQ hR ha hb h1 h2
  go_enter Try.func18, Try.ntmps18
  go_upto_region 1 with (fail)
  rw [← hq, ← HW.out]
  clear hq HW
  obtain ⟨sq, xs, sp, dd, dn⟩ := S
  simp only at HX hl p0 p1 p2 p3 p4 r0 r1 r2 r3 r4 ⊢
  have e1 : (sq == sq) = true := by simp
  go_upto_region 3 with (fail)
  clear p0 p1 p2 p3 p4 r0 r1 r2 r3 r4 hlq hlr
  go_wp2_with fail
  go_loopw [5] (fun i wr => ∃ j : Nat, j ≤ xs.length ∧ i = .int .i64 j ∧ Below w1.heap.size w1 wr) (fun i _ => xs.length - (intOf i).toNat)
  case atStart => exact ⟨0, Nat.zero_le _, rfl, Below.refl _ _⟩
  case round =>
    obtain ⟨j, hj, rfl, hbr⟩ := hrel
    have hQr := heap_keep hbr HX.out.2.1
    have hRr := heap_keep hbr HX.out.2.2.1
    have p1 := cells_at hQr 1 _ rfl
    have r1 := cells_at hRr 1 _ rfl
    simp only [List.getElem_toArray, List.getElem_cons_succ, List.getElem_cons_zero] at p1 r1
    have hlq := heap_lt hQr
    have hlr := heap_lt hRr
    by_cases hlt : j < xs.length
    · obtain ⟨b1, o1, k1, ee1, x1⟩ := (HX.out.2.2.2.1.below hbr).at hlt
      simp only [Value.slice.injEq] at ee1
      obtain ⟨rfl, -, rfl⟩ := ee1
      obtain ⟨b2, o2, k2, ee2, x2⟩ := (HX.out.2.2.2.2.below hbr).at hlt
      simp only [Value.slice.injEq] at ee2
      obtain ⟨rfl, -, rfl⟩ := ee2
      have hl1 := cell_lt x1
      have hl2 := cell_lt x2
      generalize xs[j] = x at x1 x2
      have hjl : (j : Int) < (xs.length : Int) := by omega
      have hj0 : (0 : Int) ≤ (j : Int) := by omega
      have e2 : (x != x) = false := by simp
      have HB := Lib.hid (hbr.trans ((Below.refl _ _).drew.mono hbr.size))
      clear hQr hRr hbr
      go_upto_region 6 with (fail)
      (refine wp_region_mix [0, 1, 2, 3, 4, 5, 6, 7, 8, 9, 10] [(true, true), (true, false), (true, true), (true, true), (true, false), (true, true), (true, false), (true, true), (true, true), (true, false), (true, true)] [0, 1, 0, 7, 15, 0, 32, 0, 224, 480, 1023] _ (by kernel_rfl) (by kernel_rfl) (rfl : _ = _) ?_; simp only [pickL, List.map_cons, List.map_nil, List.getD_cons_succ, List.getD_cons_zero])
      (repeat (first | (refine mix_pure (fun hne K hK => ?_); go_simp; refine hK _ ?_; clear hK K hne) | (refine mix_load ?_ (fun K hK => ?_); (focus (first | rfl | (go_simp; done))); go_simp; refine hK _ ?_; clear hK K) | (refine mix_skip ?_ (fun K hK => ?_); (focus (first | rfl | (go_simp; done))); go_simp; refine hK _ ?_; clear hK K)))
      refine mix_done ?_
      go_wp2_with fail
      go_roundw
      case rel => exact ⟨j + 1, by omega, by go_num, HB.out⟩
      case measure =>
        show xs.length - ((j : Int) + 1).toNat < xs.length - (j : Int).toNat
        omega
    · obtain rfl : j = xs.length := by omega
      have HB := Lib.hid (HX.out.1.trans (hbr.mono HX.out.1.size))
      clear hQr hRr hbr hlt hj
      go_wp2_with fail
      go_ret
      exact ⟨rfl, HB.out⟩
end Go.Proofs.Ytogejjbclimjjaa
