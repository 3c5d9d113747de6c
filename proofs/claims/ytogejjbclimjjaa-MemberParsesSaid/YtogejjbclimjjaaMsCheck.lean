/- member.Set.Check: any set, of a shape that is one. -/
--only r2
import Derived.Test.YtogejjbclimjjaaMemSpec
import Derived.Test.YtogejjbclimjjaaTabCheck
import Derived.Deep.DeepCutAuto
namespace Go.Proofs.Ytogejjbclimjjaa
set_option linter.unusedVariables false
set_option linter.unusedSimpArgs false
open Go.RowKit

def MCheckEnds (n b : Nat) (S : Ms) (w : World) (e : Ending) (w' : World) : Prop := e = .returned (.int .i64 (S.err n b)) ∧ Below w.heap.size w w'
set_option maxRecDepth 100000 in
set_option maxHeartbeats 8000000 in
theorem mscheck_calls (n b p s : Nat) (S : Ms) (v : Value) (w : World) (hS : MsAt w S v) (hg : geoOk n b p s) (hcl : S.chips.length ≤ 1000) :
    Calls Try.prog 20 #[S.val v, geoV n b p s] w (MCheckEnds n b S w) := by
  have hyes : S.Ok n b → ∀ w', Below w.heap.size w w' → MCheckEnds n b S w (.returned (.int .i64 0)) w' := fun h w' hb => ⟨by unfold Ms.err; rw [if_pos h]; rfl, hb⟩
  have hno : ¬ S.Ok n b → ∀ w', Below w.heap.size w w' → MCheckEnds n b S w (.returned (.int .i64 62)) w' := fun h w' hb => ⟨by unfold Ms.err; rw [if_neg h]; rfl, hb⟩
  generalize MCheckEnds n b S w = Post at hyes hno ⊢
  have HY := Lib.hid hyes
  have HN := Lib.hid hno
  clear hyes hno
  obtain ⟨ti, hti, hz0, hz1, hz2⟩ := info_parts infoI64
  obtain ⟨a, cap, rfl, hcap, hmax⟩ := hS.c.form
  obtain ⟨q, hq⟩ : ∃ q, q = w.heap.size := ⟨_, rfl⟩
  obtain ⟨w1, hw1⟩ : ∃ w1, w1 = (w.alloc (.cells (S.cells (.slice a S.chips.length cap)) 37)).alloc (.cells #[.int .i64 n, .int .i64 b, .int .i64 p, .int .i64 s] 28) := ⟨_, rfl⟩
  have hal : Below w.heap.size w w1 := by rw [hw1]; exact ((Below.refl w.heap.size w).alloc (Nat.le_refl _) _).alloc (by simp) _
  have hQ : w1.heap[q]? = some (.cells (S.cells (.slice a S.chips.length cap)) 37 (0, 0)) := by rw [hw1]; exact heap_old _ (heap_is hq)
  have hG : w1.heap[q + 1]? = some (.cells #[.int .i64 n, .int .i64 b, .int .i64 p, .int .i64 s] 28 (0, 0)) := by rw [hw1]; exact heap_is (by simp [hq])
  have hS1 := hS.below hal
  unfold Ms.cells at hw1 hQ
  have HW := Lib.hid hw1
  have k0 := cells_at hG 0 _ rfl
  have k1 := cells_at hG 1 _ rfl
  have k2 := cells_at hG 2 _ rfl
  have k3 := cells_at hG 3 _ rfl
  simp only [List.getElem_toArray, List.getElem_cons_succ, List.getElem_cons_zero] at k0 k1 k2 k3
  have hlg := heap_lt hG
  have hch := gcheck_calls n b p s w1
  unfold CheckEnds at hch
  rw [if_pos hg] at hch
  have HCH := Lib.hid hch
  obtain ⟨g1, g2, g3, g4, -⟩ := hg
  have hqw : w.heap.size ≤ q := by omega
  have HX := Lib.hid (⟨hal, hQ, hG, hS1, hqw⟩ : _ ∧ _ ∧ _ ∧ _ ∧ _)
  clear hal hQ hG hS1 hS hch hw1 hqw
  unfold Ms.val Ms.cells
  go_enter Try.func20, Try.ntmps20
  go_upto_region 1 with (fail)
  rw [← hq, ← HW.out]
  clear hq HW
  go_wp2_with fail
  refine HCH.out.mono ?_
  rintro e w2 ⟨rfl, hb2⟩
  obtain ⟨hal, hQ, hG, hS1, hqw⟩ := HX.out
  have hB2 := hal.trans (hb2.mono hal.size)
  have hQ2 := heap_keep hb2 hQ
  have hG2 := heap_keep hb2 hG
  have hS2 := hS1.below hb2
  have HX2 := Lib.hid (⟨hB2, hQ2, hG2, hS2, hqw⟩ : _ ∧ _ ∧ _ ∧ _ ∧ _)
  clear hal hQ hG hS1 hb2 hB2 hQ2 hG2 hS2 hqw HX HCH hlg k0 k1 k2 k3
  obtain ⟨D, hDD⟩ : ∃ D, D = decide (S.bad n b) := ⟨_, rfl⟩
  have HDD := Lib.hid hDD
  clear hDD
  obtain ⟨sq, xs, sp, dd, dn⟩ := S
  simp only at hcl hcap HX2 HY HN ⊢
  obtain ⟨ln, hln⟩ : ∃ ln, ln = xs.length := ⟨_, rfl⟩
  rw [← hln] at hcl hcap ⊢
  have HLN := Lib.hid hln
  have hbad : ((ln : Int) ≠ (n : Int) ∨ (dd ≠ 255 ∧ (dd < 0 ∨ (n : Int) ≤ dd)) ∨ dn < 0 ∨ (b : Int) - 5 < dn ∨ (0 < dn ∧ (dd = 255 ∨ sp = 255))) ↔ D = true := by
    rw [HDD.out, decide_eq_true_iff, hln]
    rfl
  have HBAD := Lib.hid hbad
  clear hbad HDD
  rw [← hln] at HX2
  clear hln
  go_upto_region 4 with (fail)
  go_cut [64] (fun s64 wx => s64 = .bool D ∧ Below w2.heap.size w2 wx)
  case first =>
    have p1 : ∀ w', Below w2.heap.size w2 w' → w'.cell? ⟨q, 1, none⟩ = some (.slice a ln cap) := fun w' h => cells_at (heap_keep h HX2.out.2.1) 1 _ rfl
    have p2 : ∀ w', Below w2.heap.size w2 w' → w'.cell? ⟨q, 2, none⟩ = some (.int .i64 sp) := fun w' h => cells_at (heap_keep h HX2.out.2.1) 2 _ rfl
    have p3 : ∀ w', Below w2.heap.size w2 w' → w'.cell? ⟨q, 3, none⟩ = some (.int .i64 dd) := fun w' h => cells_at (heap_keep h HX2.out.2.1) 3 _ rfl
    have p4 : ∀ w', Below w2.heap.size w2 w' → w'.cell? ⟨q, 4, none⟩ = some (.int .i64 dn) := fun w' h => cells_at (heap_keep h HX2.out.2.1) 4 _ rfl
    have k0 : ∀ w', Below w2.heap.size w2 w' → w'.cell? ⟨q + 1, 0, none⟩ = some (.int .i64 n) := fun w' h => cells_at (heap_keep h HX2.out.2.2.1) 0 _ rfl
    have k1 : ∀ w', Below w2.heap.size w2 w' → w'.cell? ⟨q + 1, 1, none⟩ = some (.int .i64 b) := fun w' h => cells_at (heap_keep h HX2.out.2.2.1) 1 _ rfl
    have k2 : ∀ w', Below w2.heap.size w2 w' → w'.cell? ⟨q + 1, 2, none⟩ = some (.int .i64 p) := fun w' h => cells_at (heap_keep h HX2.out.2.2.1) 2 _ rfl
    have k3 : ∀ w', Below w2.heap.size w2 w' → w'.cell? ⟨q + 1, 3, none⟩ = some (.int .i64 s) := fun w' h => cells_at (heap_keep h HX2.out.2.2.1) 3 _ rfl
    have hlq := heap_lt HX2.out.2.1
    have hlg := heap_lt HX2.out.2.2.1
    by_cases c1 : (ln : Int) = (n : Int)
    rotate_left
    · have e1 : ((ln : Int) != (n : Int)) = true := by simpa using c1
      have hDv : D = true := by first | exact HBAD.out.mp (by omega) | (cases hDc : D; (first | rfl | (exact absurd (HBAD.out.mpr hDc) (by omega))); (first | rfl | (exact absurd (HBAD.out.mpr hDc) (by omega))))
      have HV := Lib.hid hDv
      clear hDv HBAD c1
      (refine wp_region_mix [0, 1, 2, 3, 4, 5, 6, 7, 8, 9, 10, 11, 12, 13, 14, 15, 16, 17, 18, 19, 20, 21, 22, 23, 24, 25, 26, 27, 28, 29, 30, 31, 32, 33, 34, 35, 36, 37, 38, 39, 40, 41, 42, 43, 44, 45, 46, 47, 48, 49] [(true, true), (true, false), (true, true), (true, true), (true, false), (true, true), (true, true), (true, true), (true, false), (true, true), (true, true), (true, true), (true, false), (true, true), (true, true), (true, true), (true, false), (true, true), (true, false), (true, true), (true, true), (true, true), (true, true), (true, true), (true, true), (true, false), (true, true), (true, true), (true, true), (true, true), (true, false), (true, false), (false, true), (true, true), (true, true), (true, true), (true, true), (true, false), (true, true), (true, true), (true, true), (true, false), (true, true), (true, true), (true, true), (true, false), (true, true), (true, true), (true, true), (true, true)] [0, 1, 3, 0, 8, 31, 63, 127, 255, 511, 1023, 2047, 4095, 8191, 16383, 32767, 65535, 32767, 163839, 524287, 1048575, 2097151, 4194303, 8388607, 16777215, 33554431, 67108863, 134217727, 268435455, 536870911, 1073741823, 536870911, 2684354559, 8589934591, 17179869183, 34359738367, 68719476735, 137438953471, 274877906943, 549755813887, 1099511627775, 2199023255551, 4398046511103, 8796093022207, 17592186044415, 35184372088831, 70368744177663, 140737488355327, 281474976710655, 562949953421311] (fun w' => Below w2.heap.size w2 w') (by kernel_rfl) (by kernel_rfl) ?_ ?_; rotate_left; simp only [pickL, List.map_cons, List.map_nil, List.getD_cons_succ, List.getD_cons_zero])
      rotate_left
      focus exact (Below.refl _ _).drew
      (repeat (first | (refine mix_pure (fun hne K hK => ?_); go_simp; refine hK _ ?_; clear hK K hne) | (refine mix_load ?_ (fun K hK => ?_); (focus (first | rfl | (go_simp; done))); apply Exists.intro; apply And.intro; (focus (intro w' hC; go_simp; exact rfl)); go_simp; refine hK _ ?_; clear hK K) | (refine mix_skip ?_ (fun K hK => ?_); (focus (first | rfl | (go_simp; done))); go_simp; refine hK _ ?_; clear hK K)))
      refine mix_done ?_
      go_wp2_with fail
      go_meet
      exact ⟨by rw [HV.out], (Below.refl _ _).drew⟩
    obtain rfl : n = ln := by omega
    by_cases c2 : dd = 255
    · subst c2
      by_cases c3 : dn < 0
      · have e3 : decide (dn < 0) = true := by simp; omega
        have hDv : D = true := by first | exact HBAD.out.mp (by omega) | (cases hDc : D; (first | rfl | (exact absurd (HBAD.out.mpr hDc) (by omega))); (first | rfl | (exact absurd (HBAD.out.mpr hDc) (by omega))))
        have HV := Lib.hid hDv
        clear hDv HBAD 
        (refine wp_region_mix [0, 1, 2, 3, 4, 5, 6, 7, 8, 9, 10, 11, 12, 13, 14, 15, 16, 17, 18, 19, 20, 21, 22, 23, 24, 25, 26, 27, 28, 29, 30, 31, 32, 33, 34, 35, 36, 37, 38, 39, 40, 41, 42, 43, 44, 45, 46, 47, 48, 49] [(true, true), (true, false), (true, true), (true, true), (true, false), (true, true), (true, true), (true, true), (true, false), (true, true), (true, true), (true, true), (true, false), (true, true), (true, true), (true, true), (true, false), (true, true), (true, false), (true, true), (true, true), (true, true), (true, true), (true, true), (true, true), (true, false), (true, true), (true, true), (true, true), (true, true), (true, false), (true, false), (false, true), (true, true), (true, true), (true, true), (true, true), (true, false), (true, true), (true, true), (true, true), (true, false), (true, true), (true, true), (true, true), (true, false), (true, true), (true, true), (true, true), (true, true)] [0, 1, 3, 0, 8, 31, 63, 127, 255, 511, 1023, 2047, 4095, 8191, 16383, 32767, 65535, 32767, 163839, 524287, 1048575, 2097151, 4194303, 8388607, 16777215, 33554431, 67108863, 134217727, 268435455, 536870911, 1073741823, 536870911, 2684354559, 8589934591, 17179869183, 34359738367, 68719476735, 137438953471, 274877906943, 549755813887, 1099511627775, 2199023255551, 4398046511103, 8796093022207, 17592186044415, 35184372088831, 70368744177663, 140737488355327, 281474976710655, 562949953421311] (fun w' => Below w2.heap.size w2 w') (by kernel_rfl) (by kernel_rfl) ?_ ?_; rotate_left; simp only [pickL, List.map_cons, List.map_nil, List.getD_cons_succ, List.getD_cons_zero])
        rotate_left
        focus exact (Below.refl _ _).drew
        (repeat (first | (refine mix_pure (fun hne K hK => ?_); go_simp; refine hK _ ?_; clear hK K hne) | (refine mix_load ?_ (fun K hK => ?_); (focus (first | rfl | (go_simp; done))); apply Exists.intro; apply And.intro; (focus (intro w' hC; go_simp; exact rfl)); go_simp; refine hK _ ?_; clear hK K) | (refine mix_skip ?_ (fun K hK => ?_); (focus (first | rfl | (go_simp; done))); go_simp; refine hK _ ?_; clear hK K)))
        refine mix_done ?_
        go_wp2_with fail
        go_meet
        exact ⟨by rw [HV.out], (Below.refl _ _).drew⟩
      have e3 : decide (dn < 0) = false := by simp; omega
      by_cases c4 : (b : Int) - 5 < dn
      · have e4 : decide ((b : Int) - 5 < dn) = true := by simp; omega
        have hDv : D = true := by first | exact HBAD.out.mp (by omega) | (cases hDc : D; (first | rfl | (exact absurd (HBAD.out.mpr hDc) (by omega))); (first | rfl | (exact absurd (HBAD.out.mpr hDc) (by omega))))
        have HV := Lib.hid hDv
        clear hDv HBAD 
        (refine wp_region_mix [0, 1, 2, 3, 4, 5, 6, 7, 8, 9, 10, 11, 12, 13, 14, 15, 16, 17, 18, 19, 20, 21, 22, 23, 24, 25, 26, 27, 28, 29, 30, 31, 32, 33, 34, 35, 36, 37, 38, 39, 40, 41, 42, 43, 44, 45, 46, 47, 48, 49] [(true, true), (true, false), (true, true), (true, true), (true, false), (true, true), (true, true), (true, true), (true, false), (true, true), (true, true), (true, true), (true, false), (true, true), (true, true), (true, true), (true, false), (true, true), (true, false), (true, true), (true, true), (true, true), (true, true), (true, true), (true, true), (true, false), (true, true), (true, true), (true, true), (true, true), (true, false), (true, false), (false, true), (true, true), (true, true), (true, true), (true, true), (true, false), (true, true), (true, true), (true, true), (true, false), (true, true), (true, true), (true, true), (true, false), (true, true), (true, true), (true, true), (true, true)] [0, 1, 3, 0, 8, 31, 63, 127, 255, 511, 1023, 2047, 4095, 8191, 16383, 32767, 65535, 32767, 163839, 524287, 1048575, 2097151, 4194303, 8388607, 16777215, 33554431, 67108863, 134217727, 268435455, 536870911, 1073741823, 536870911, 2684354559, 8589934591, 17179869183, 34359738367, 68719476735, 137438953471, 274877906943, 549755813887, 1099511627775, 2199023255551, 4398046511103, 8796093022207, 17592186044415, 35184372088831, 70368744177663, 140737488355327, 281474976710655, 562949953421311] (fun w' => Below w2.heap.size w2 w') (by kernel_rfl) (by kernel_rfl) ?_ ?_; rotate_left; simp only [pickL, List.map_cons, List.map_nil, List.getD_cons_succ, List.getD_cons_zero])
        rotate_left
        focus exact (Below.refl _ _).drew
        (repeat (first | (refine mix_pure (fun hne K hK => ?_); go_simp; refine hK _ ?_; clear hK K hne) | (refine mix_load ?_ (fun K hK => ?_); (focus (first | rfl | (go_simp; done))); apply Exists.intro; apply And.intro; (focus (intro w' hC; go_simp; exact rfl)); go_simp; refine hK _ ?_; clear hK K) | (refine mix_skip ?_ (fun K hK => ?_); (focus (first | rfl | (go_simp; done))); go_simp; refine hK _ ?_; clear hK K)))
        (refine mix_one (by first | rfl | (go_simp; done)) (fun R hR hX => ?_))
        go_wp2_with fail
        refine (virt_calls n b p s _ ⟨by omega, by omega⟩).mono ?_
        rintro e w3 ⟨rfl, hb3⟩
        have hC : Below w2.heap.size w2 w3 := (Below.refl _ _).drew.trans (hb3.mono (Nat.le_refl _))
        have HC := Lib.hid hC
        clear hb3
        go_wp2_with fail
        refine hR _ _ rfl ⟨_, hC, fun _ => rfl, ?_⟩
        clear hR hX R hC
        (repeat (first | (refine mix_pure (fun hne K hK => ?_); go_simp; refine hK _ ?_; clear hK K hne) | (refine mix_load ?_ (fun K hK => ?_); (focus (first | rfl | (go_simp; done))); apply Exists.intro; apply And.intro; (focus (intro w' hC; go_simp; exact rfl)); go_simp; refine hK _ ?_; clear hK K) | (refine mix_skip ?_ (fun K hK => ?_); (focus (first | rfl | (go_simp; done))); go_simp; refine hK _ ?_; clear hK K)))
        refine mix_done ?_
        go_wp2_with fail
        go_meet
        exact ⟨by rw [HV.out], HC.out⟩
      have e4 : decide ((b : Int) - 5 < dn) = false := by simp; omega
      by_cases c5 : 0 < dn
      rotate_left
      · have e5 : decide ((0 : Int) < dn) = false := by simp; omega
        have hDv : D = false := by first | exact HBAD.out.mp (by omega) | (cases hDc : D; (first | rfl | (exact absurd (HBAD.out.mpr hDc) (by omega))); (first | rfl | (exact absurd (HBAD.out.mpr hDc) (by omega))))
        have HV := Lib.hid hDv
        clear hDv HBAD 
        (refine wp_region_mix [0, 1, 2, 3, 4, 5, 6, 7, 8, 9, 10, 11, 12, 13, 14, 15, 16, 17, 18, 19, 20, 21, 22, 23, 24, 25, 26, 27, 28, 29, 30, 31, 32, 33, 34, 35, 36, 37, 38, 39, 40, 41, 42, 43, 44, 45, 46, 47, 48, 49] [(true, true), (true, false), (true, true), (true, true), (true, false), (true, true), (true, true), (true, true), (true, false), (true, true), (true, true), (true, true), (true, false), (true, true), (true, true), (true, true), (true, false), (true, true), (true, false), (true, true), (true, true), (true, true), (true, true), (true, true), (true, true), (true, false), (true, true), (true, true), (true, true), (true, true), (true, false), (true, false), (false, true), (true, true), (true, true), (true, true), (true, true), (true, false), (true, true), (true, true), (true, true), (true, false), (true, true), (true, true), (true, true), (true, false), (true, true), (true, true), (true, true), (true, true)] [0, 1, 3, 0, 8, 31, 63, 127, 255, 511, 1023, 2047, 4095, 8191, 16383, 32767, 65535, 32767, 163839, 524287, 1048575, 2097151, 4194303, 8388607, 16777215, 33554431, 67108863, 134217727, 268435455, 536870911, 1073741823, 536870911, 2684354559, 8589934591, 17179869183, 34359738367, 68719476735, 137438953471, 274877906943, 549755813887, 1099511627775, 2199023255551, 4398046511103, 8796093022207, 17592186044415, 35184372088831, 70368744177663, 140737488355327, 281474976710655, 562949953421311] (fun w' => Below w2.heap.size w2 w') (by kernel_rfl) (by kernel_rfl) ?_ ?_; rotate_left; simp only [pickL, List.map_cons, List.map_nil, List.getD_cons_succ, List.getD_cons_zero])
        rotate_left
        focus exact (Below.refl _ _).drew
        (repeat (first | (refine mix_pure (fun hne K hK => ?_); go_simp; refine hK _ ?_; clear hK K hne) | (refine mix_load ?_ (fun K hK => ?_); (focus (first | rfl | (go_simp; done))); apply Exists.intro; apply And.intro; (focus (intro w' hC; go_simp; exact rfl)); go_simp; refine hK _ ?_; clear hK K) | (refine mix_skip ?_ (fun K hK => ?_); (focus (first | rfl | (go_simp; done))); go_simp; refine hK _ ?_; clear hK K)))
        (refine mix_one (by first | rfl | (go_simp; done)) (fun R hR hX => ?_))
        go_wp2_with fail
        refine (virt_calls n b p s _ ⟨by omega, by omega⟩).mono ?_
        rintro e w3 ⟨rfl, hb3⟩
        have hC : Below w2.heap.size w2 w3 := (Below.refl _ _).drew.trans (hb3.mono (Nat.le_refl _))
        have HC := Lib.hid hC
        clear hb3
        go_wp2_with fail
        refine hR _ _ rfl ⟨_, hC, fun _ => rfl, ?_⟩
        clear hR hX R hC
        (repeat (first | (refine mix_pure (fun hne K hK => ?_); go_simp; refine hK _ ?_; clear hK K hne) | (refine mix_load ?_ (fun K hK => ?_); (focus (first | rfl | (go_simp; done))); apply Exists.intro; apply And.intro; (focus (intro w' hC; go_simp; exact rfl)); go_simp; refine hK _ ?_; clear hK K) | (refine mix_skip ?_ (fun K hK => ?_); (focus (first | rfl | (go_simp; done))); go_simp; refine hK _ ?_; clear hK K)))
        refine mix_done ?_
        go_wp2_with fail
        go_meet
        exact ⟨by rw [HV.out], HC.out⟩
      have e5 : decide ((0 : Int) < dn) = true := by simp; omega
      have hDv : D = true := by first | exact HBAD.out.mp (by omega) | (cases hDc : D; (first | rfl | (exact absurd (HBAD.out.mpr hDc) (by omega))); (first | rfl | (exact absurd (HBAD.out.mpr hDc) (by omega))))
      have HV := Lib.hid hDv
      clear hDv HBAD 
      (refine wp_region_mix [0, 1, 2, 3, 4, 5, 6, 7, 8, 9, 10, 11, 12, 13, 14, 15, 16, 17, 18, 19, 20, 21, 22, 23, 24, 25, 26, 27, 28, 29, 30, 31, 32, 33, 34, 35, 36, 37, 38, 39, 40, 41, 42, 43, 44, 45, 46, 47, 48, 49] [(true, true), (true, false), (true, true), (true, true), (true, false), (true, true), (true, true), (true, true), (true, false), (true, true), (true, true), (true, true), (true, false), (true, true), (true, true), (true, true), (true, false), (true, true), (true, false), (true, true), (true, true), (true, true), (true, true), (true, true), (true, true), (true, false), (true, true), (true, true), (true, true), (true, true), (true, false), (true, false), (false, true), (true, true), (true, true), (true, true), (true, true), (true, false), (true, true), (true, true), (true, true), (true, false), (true, true), (true, true), (true, true), (true, false), (true, true), (true, true), (true, true), (true, true)] [0, 1, 3, 0, 8, 31, 63, 127, 255, 511, 1023, 2047, 4095, 8191, 16383, 32767, 65535, 32767, 163839, 524287, 1048575, 2097151, 4194303, 8388607, 16777215, 33554431, 67108863, 134217727, 268435455, 536870911, 1073741823, 536870911, 2684354559, 8589934591, 17179869183, 34359738367, 68719476735, 137438953471, 274877906943, 549755813887, 1099511627775, 2199023255551, 4398046511103, 8796093022207, 17592186044415, 35184372088831, 70368744177663, 140737488355327, 281474976710655, 562949953421311] (fun w' => Below w2.heap.size w2 w') (by kernel_rfl) (by kernel_rfl) ?_ ?_; rotate_left; simp only [pickL, List.map_cons, List.map_nil, List.getD_cons_succ, List.getD_cons_zero])
      rotate_left
      focus exact (Below.refl _ _).drew
      (repeat (first | (refine mix_pure (fun hne K hK => ?_); go_simp; refine hK _ ?_; clear hK K hne) | (refine mix_load ?_ (fun K hK => ?_); (focus (first | rfl | (go_simp; done))); apply Exists.intro; apply And.intro; (focus (intro w' hC; go_simp; exact rfl)); go_simp; refine hK _ ?_; clear hK K) | (refine mix_skip ?_ (fun K hK => ?_); (focus (first | rfl | (go_simp; done))); go_simp; refine hK _ ?_; clear hK K)))
      (refine mix_one (by first | rfl | (go_simp; done)) (fun R hR hX => ?_))
      go_wp2_with fail
      refine (virt_calls n b p s _ ⟨by omega, by omega⟩).mono ?_
      rintro e w3 ⟨rfl, hb3⟩
      have hC : Below w2.heap.size w2 w3 := (Below.refl _ _).drew.trans (hb3.mono (Nat.le_refl _))
      have HC := Lib.hid hC
      clear hb3
      go_wp2_with fail
      refine hR _ _ rfl ⟨_, hC, fun _ => rfl, ?_⟩
      clear hR hX R hC
      (repeat (first | (refine mix_pure (fun hne K hK => ?_); go_simp; refine hK _ ?_; clear hK K hne) | (refine mix_load ?_ (fun K hK => ?_); (focus (first | rfl | (go_simp; done))); apply Exists.intro; apply And.intro; (focus (intro w' hC; go_simp; exact rfl)); go_simp; refine hK _ ?_; clear hK K) | (refine mix_skip ?_ (fun K hK => ?_); (focus (first | rfl | (go_simp; done))); go_simp; refine hK _ ?_; clear hK K)))
      refine mix_done ?_
      go_wp2_with fail
      go_meet
      exact ⟨by rw [HV.out], HC.out⟩
    have e2 : (dd != 255) = true := by simpa using c2
    have e2' : (dd == 255) = false := by simpa using c2
    by_cases c7 : dd < 0
    · have e7 : decide (dd < 0) = true := by simp; omega
      have hDv : D = true := by first | exact HBAD.out.mp (by omega) | (cases hDc : D; (first | rfl | (exact absurd (HBAD.out.mpr hDc) (by omega))); (first | rfl | (exact absurd (HBAD.out.mpr hDc) (by omega))))
      have HV := Lib.hid hDv
      clear hDv HBAD 
      (refine wp_region_mix [0, 1, 2, 3, 4, 5, 6, 7, 8, 9, 10, 11, 12, 13, 14, 15, 16, 17, 18, 19, 20, 21, 22, 23, 24, 25, 26, 27, 28, 29, 30, 31, 32, 33, 34, 35, 36, 37, 38, 39, 40, 41, 42, 43, 44, 45, 46, 47, 48, 49] [(true, true), (true, false), (true, true), (true, true), (true, false), (true, true), (true, true), (true, true), (true, false), (true, true), (true, true), (true, true), (true, false), (true, true), (true, true), (true, true), (true, false), (true, true), (true, false), (true, true), (true, true), (true, true), (true, true), (true, true), (true, true), (true, false), (true, true), (true, true), (true, true), (true, true), (true, false), (true, false), (false, true), (true, true), (true, true), (true, true), (true, true), (true, false), (true, true), (true, true), (true, true), (true, false), (true, true), (true, true), (true, true), (true, false), (true, true), (true, true), (true, true), (true, true)] [0, 1, 3, 0, 8, 31, 63, 127, 255, 511, 1023, 2047, 4095, 8191, 16383, 32767, 65535, 32767, 163839, 524287, 1048575, 2097151, 4194303, 8388607, 16777215, 33554431, 67108863, 134217727, 268435455, 536870911, 1073741823, 536870911, 2684354559, 8589934591, 17179869183, 34359738367, 68719476735, 137438953471, 274877906943, 549755813887, 1099511627775, 2199023255551, 4398046511103, 8796093022207, 17592186044415, 35184372088831, 70368744177663, 140737488355327, 281474976710655, 562949953421311] (fun w' => Below w2.heap.size w2 w') (by kernel_rfl) (by kernel_rfl) ?_ ?_; rotate_left; simp only [pickL, List.map_cons, List.map_nil, List.getD_cons_succ, List.getD_cons_zero])
      rotate_left
      focus exact (Below.refl _ _).drew
      (repeat (first | (refine mix_pure (fun hne K hK => ?_); go_simp; refine hK _ ?_; clear hK K hne) | (refine mix_load ?_ (fun K hK => ?_); (focus (first | rfl | (go_simp; done))); apply Exists.intro; apply And.intro; (focus (intro w' hC; go_simp; exact rfl)); go_simp; refine hK _ ?_; clear hK K) | (refine mix_skip ?_ (fun K hK => ?_); (focus (first | rfl | (go_simp; done))); go_simp; refine hK _ ?_; clear hK K)))
      refine mix_done ?_
      go_wp2_with fail
      go_meet
      exact ⟨by rw [HV.out], (Below.refl _ _).drew⟩
    have e7 : decide (dd < 0) = false := by simp; omega
    by_cases c8 : (n : Int) ≤ dd
    · have e8 : decide ((n : Int) ≤ dd) = true := by simp; omega
      have hDv : D = true := by first | exact HBAD.out.mp (by omega) | (cases hDc : D; (first | rfl | (exact absurd (HBAD.out.mpr hDc) (by omega))); (first | rfl | (exact absurd (HBAD.out.mpr hDc) (by omega))))
      have HV := Lib.hid hDv
      clear hDv HBAD 
      (refine wp_region_mix [0, 1, 2, 3, 4, 5, 6, 7, 8, 9, 10, 11, 12, 13, 14, 15, 16, 17, 18, 19, 20, 21, 22, 23, 24, 25, 26, 27, 28, 29, 30, 31, 32, 33, 34, 35, 36, 37, 38, 39, 40, 41, 42, 43, 44, 45, 46, 47, 48, 49] [(true, true), (true, false), (true, true), (true, true), (true, false), (true, true), (true, true), (true, true), (true, false), (true, true), (true, true), (true, true), (true, false), (true, true), (true, true), (true, true), (true, false), (true, true), (true, false), (true, true), (true, true), (true, true), (true, true), (true, true), (true, true), (true, false), (true, true), (true, true), (true, true), (true, true), (true, false), (true, false), (false, true), (true, true), (true, true), (true, true), (true, true), (true, false), (true, true), (true, true), (true, true), (true, false), (true, true), (true, true), (true, true), (true, false), (true, true), (true, true), (true, true), (true, true)] [0, 1, 3, 0, 8, 31, 63, 127, 255, 511, 1023, 2047, 4095, 8191, 16383, 32767, 65535, 32767, 163839, 524287, 1048575, 2097151, 4194303, 8388607, 16777215, 33554431, 67108863, 134217727, 268435455, 536870911, 1073741823, 536870911, 2684354559, 8589934591, 17179869183, 34359738367, 68719476735, 137438953471, 274877906943, 549755813887, 1099511627775, 2199023255551, 4398046511103, 8796093022207, 17592186044415, 35184372088831, 70368744177663, 140737488355327, 281474976710655, 562949953421311] (fun w' => Below w2.heap.size w2 w') (by kernel_rfl) (by kernel_rfl) ?_ ?_; rotate_left; simp only [pickL, List.map_cons, List.map_nil, List.getD_cons_succ, List.getD_cons_zero])
      rotate_left
      focus exact (Below.refl _ _).drew
      (repeat (first | (refine mix_pure (fun hne K hK => ?_); go_simp; refine hK _ ?_; clear hK K hne) | (refine mix_load ?_ (fun K hK => ?_); (focus (first | rfl | (go_simp; done))); apply Exists.intro; apply And.intro; (focus (intro w' hC; go_simp; exact rfl)); go_simp; refine hK _ ?_; clear hK K) | (refine mix_skip ?_ (fun K hK => ?_); (focus (first | rfl | (go_simp; done))); go_simp; refine hK _ ?_; clear hK K)))
      refine mix_done ?_
      go_wp2_with fail
      go_meet
      exact ⟨by rw [HV.out], (Below.refl _ _).drew⟩
    have e8 : decide ((n : Int) ≤ dd) = false := by simp; omega
    by_cases c3 : dn < 0
    · have e3 : decide (dn < 0) = true := by simp; omega
      have hDv : D = true := by first | exact HBAD.out.mp (by omega) | (cases hDc : D; (first | rfl | (exact absurd (HBAD.out.mpr hDc) (by omega))); (first | rfl | (exact absurd (HBAD.out.mpr hDc) (by omega))))
      have HV := Lib.hid hDv
      clear hDv HBAD 
      (refine wp_region_mix [0, 1, 2, 3, 4, 5, 6, 7, 8, 9, 10, 11, 12, 13, 14, 15, 16, 17, 18, 19, 20, 21, 22, 23, 24, 25, 26, 27, 28, 29, 30, 31, 32, 33, 34, 35, 36, 37, 38, 39, 40, 41, 42, 43, 44, 45, 46, 47, 48, 49] [(true, true), (true, false), (true, true), (true, true), (true, false), (true, true), (true, true), (true, true), (true, false), (true, true), (true, true), (true, true), (true, false), (true, true), (true, true), (true, true), (true, false), (true, true), (true, false), (true, true), (true, true), (true, true), (true, true), (true, true), (true, true), (true, false), (true, true), (true, true), (true, true), (true, true), (true, false), (true, false), (false, true), (true, true), (true, true), (true, true), (true, true), (true, false), (true, true), (true, true), (true, true), (true, false), (true, true), (true, true), (true, true), (true, false), (true, true), (true, true), (true, true), (true, true)] [0, 1, 3, 0, 8, 31, 63, 127, 255, 511, 1023, 2047, 4095, 8191, 16383, 32767, 65535, 32767, 163839, 524287, 1048575, 2097151, 4194303, 8388607, 16777215, 33554431, 67108863, 134217727, 268435455, 536870911, 1073741823, 536870911, 2684354559, 8589934591, 17179869183, 34359738367, 68719476735, 137438953471, 274877906943, 549755813887, 1099511627775, 2199023255551, 4398046511103, 8796093022207, 17592186044415, 35184372088831, 70368744177663, 140737488355327, 281474976710655, 562949953421311] (fun w' => Below w2.heap.size w2 w') (by kernel_rfl) (by kernel_rfl) ?_ ?_; rotate_left; simp only [pickL, List.map_cons, List.map_nil, List.getD_cons_succ, List.getD_cons_zero])
      rotate_left
      focus exact (Below.refl _ _).drew
      (repeat (first | (refine mix_pure (fun hne K hK => ?_); go_simp; refine hK _ ?_; clear hK K hne) | (refine mix_load ?_ (fun K hK => ?_); (focus (first | rfl | (go_simp; done))); apply Exists.intro; apply And.intro; (focus (intro w' hC; go_simp; exact rfl)); go_simp; refine hK _ ?_; clear hK K) | (refine mix_skip ?_ (fun K hK => ?_); (focus (first | rfl | (go_simp; done))); go_simp; refine hK _ ?_; clear hK K)))
      refine mix_done ?_
      go_wp2_with fail
      go_meet
      exact ⟨by rw [HV.out], (Below.refl _ _).drew⟩
    have e3 : decide (dn < 0) = false := by simp; omega
    by_cases c4 : (b : Int) - 5 < dn
    · have e4 : decide ((b : Int) - 5 < dn) = true := by simp; omega
      have hDv : D = true := by first | exact HBAD.out.mp (by omega) | (cases hDc : D; (first | rfl | (exact absurd (HBAD.out.mpr hDc) (by omega))); (first | rfl | (exact absurd (HBAD.out.mpr hDc) (by omega))))
      have HV := Lib.hid hDv
      clear hDv HBAD 
      (refine wp_region_mix [0, 1, 2, 3, 4, 5, 6, 7, 8, 9, 10, 11, 12, 13, 14, 15, 16, 17, 18, 19, 20, 21, 22, 23, 24, 25, 26, 27, 28, 29, 30, 31, 32, 33, 34, 35, 36, 37, 38, 39, 40, 41, 42, 43, 44, 45, 46, 47, 48, 49] [(true, true), (true, false), (true, true), (true, true), (true, false), (true, true), (true, true), (true, true), (true, false), (true, true), (true, true), (true, true), (true, false), (true, true), (true, true), (true, true), (true, false), (true, true), (true, false), (true, true), (true, true), (true, true), (true, true), (true, true), (true, true), (true, false), (true, true), (true, true), (true, true), (true, true), (true, false), (true, false), (false, true), (true, true), (true, true), (true, true), (true, true), (true, false), (true, true), (true, true), (true, true), (true, false), (true, true), (true, true), (true, true), (true, false), (true, true), (true, true), (true, true), (true, true)] [0, 1, 3, 0, 8, 31, 63, 127, 255, 511, 1023, 2047, 4095, 8191, 16383, 32767, 65535, 32767, 163839, 524287, 1048575, 2097151, 4194303, 8388607, 16777215, 33554431, 67108863, 134217727, 268435455, 536870911, 1073741823, 536870911, 2684354559, 8589934591, 17179869183, 34359738367, 68719476735, 137438953471, 274877906943, 549755813887, 1099511627775, 2199023255551, 4398046511103, 8796093022207, 17592186044415, 35184372088831, 70368744177663, 140737488355327, 281474976710655, 562949953421311] (fun w' => Below w2.heap.size w2 w') (by kernel_rfl) (by kernel_rfl) ?_ ?_; rotate_left; simp only [pickL, List.map_cons, List.map_nil, List.getD_cons_succ, List.getD_cons_zero])
      rotate_left
      focus exact (Below.refl _ _).drew
      (repeat (first | (refine mix_pure (fun hne K hK => ?_); go_simp; refine hK _ ?_; clear hK K hne) | (refine mix_load ?_ (fun K hK => ?_); (focus (first | rfl | (go_simp; done))); apply Exists.intro; apply And.intro; (focus (intro w' hC; go_simp; exact rfl)); go_simp; refine hK _ ?_; clear hK K) | (refine mix_skip ?_ (fun K hK => ?_); (focus (first | rfl | (go_simp; done))); go_simp; refine hK _ ?_; clear hK K)))
      (refine mix_one (by first | rfl | (go_simp; done)) (fun R hR hX => ?_))
      go_wp2_with fail
      refine (virt_calls n b p s _ ⟨by omega, by omega⟩).mono ?_
      rintro e w3 ⟨rfl, hb3⟩
      have hC : Below w2.heap.size w2 w3 := (Below.refl _ _).drew.trans (hb3.mono (Nat.le_refl _))
      have HC := Lib.hid hC
      clear hb3
      go_wp2_with fail
      refine hR _ _ rfl ⟨_, hC, fun _ => rfl, ?_⟩
      clear hR hX R hC
      (repeat (first | (refine mix_pure (fun hne K hK => ?_); go_simp; refine hK _ ?_; clear hK K hne) | (refine mix_load ?_ (fun K hK => ?_); (focus (first | rfl | (go_simp; done))); apply Exists.intro; apply And.intro; (focus (intro w' hC; go_simp; exact rfl)); go_simp; refine hK _ ?_; clear hK K) | (refine mix_skip ?_ (fun K hK => ?_); (focus (first | rfl | (go_simp; done))); go_simp; refine hK _ ?_; clear hK K)))
      refine mix_done ?_
      go_wp2_with fail
      go_meet
      exact ⟨by rw [HV.out], HC.out⟩
    have e4 : decide ((b : Int) - 5 < dn) = false := by simp; omega
    by_cases c5 : 0 < dn
    rotate_left
    · have e5 : decide ((0 : Int) < dn) = false := by simp; omega
      have hDv : D = false := by first | exact HBAD.out.mp (by omega) | (cases hDc : D; (first | rfl | (exact absurd (HBAD.out.mpr hDc) (by omega))); (first | rfl | (exact absurd (HBAD.out.mpr hDc) (by omega))))
      have HV := Lib.hid hDv
      clear hDv HBAD 
      (refine wp_region_mix [0, 1, 2, 3, 4, 5, 6, 7, 8, 9, 10, 11, 12, 13, 14, 15, 16, 17, 18, 19, 20, 21, 22, 23, 24, 25, 26, 27, 28, 29, 30, 31, 32, 33, 34, 35, 36, 37, 38, 39, 40, 41, 42, 43, 44, 45, 46, 47, 48, 49] [(true, true), (true, false), (true, true), (true, true), (true, false), (true, true), (true, true), (true, true), (true, false), (true, true), (true, true), (true, true), (true, false), (true, true), (true, true), (true, true), (true, false), (true, true), (true, false), (true, true), (true, true), (true, true), (true, true), (true, true), (true, true), (true, false), (true, true), (true, true), (true, true), (true, true), (true, false), (true, false), (false, true), (true, true), (true, true), (true, true), (true, true), (true, false), (true, true), (true, true), (true, true), (true, false), (true, true), (true, true), (true, true), (true, false), (true, true), (true, true), (true, true), (true, true)] [0, 1, 3, 0, 8, 31, 63, 127, 255, 511, 1023, 2047, 4095, 8191, 16383, 32767, 65535, 32767, 163839, 524287, 1048575, 2097151, 4194303, 8388607, 16777215, 33554431, 67108863, 134217727, 268435455, 536870911, 1073741823, 536870911, 2684354559, 8589934591, 17179869183, 34359738367, 68719476735, 137438953471, 274877906943, 549755813887, 1099511627775, 2199023255551, 4398046511103, 8796093022207, 17592186044415, 35184372088831, 70368744177663, 140737488355327, 281474976710655, 562949953421311] (fun w' => Below w2.heap.size w2 w') (by kernel_rfl) (by kernel_rfl) ?_ ?_; rotate_left; simp only [pickL, List.map_cons, List.map_nil, List.getD_cons_succ, List.getD_cons_zero])
      rotate_left
      focus exact (Below.refl _ _).drew
      (repeat (first | (refine mix_pure (fun hne K hK => ?_); go_simp; refine hK _ ?_; clear hK K hne) | (refine mix_load ?_ (fun K hK => ?_); (focus (first | rfl | (go_simp; done))); apply Exists.intro; apply And.intro; (focus (intro w' hC; go_simp; exact rfl)); go_simp; refine hK _ ?_; clear hK K) | (refine mix_skip ?_ (fun K hK => ?_); (focus (first | rfl | (go_simp; done))); go_simp; refine hK _ ?_; clear hK K)))
      (refine mix_one (by first | rfl | (go_simp; done)) (fun R hR hX => ?_))
      go_wp2_with fail
      refine (virt_calls n b p s _ ⟨by omega, by omega⟩).mono ?_
      rintro e w3 ⟨rfl, hb3⟩
      have hC : Below w2.heap.size w2 w3 := (Below.refl _ _).drew.trans (hb3.mono (Nat.le_refl _))
      have HC := Lib.hid hC
      clear hb3
      go_wp2_with fail
      refine hR _ _ rfl ⟨_, hC, fun _ => rfl, ?_⟩
      clear hR hX R hC
      (repeat (first | (refine mix_pure (fun hne K hK => ?_); go_simp; refine hK _ ?_; clear hK K hne) | (refine mix_load ?_ (fun K hK => ?_); (focus (first | rfl | (go_simp; done))); apply Exists.intro; apply And.intro; (focus (intro w' hC; go_simp; exact rfl)); go_simp; refine hK _ ?_; clear hK K) | (refine mix_skip ?_ (fun K hK => ?_); (focus (first | rfl | (go_simp; done))); go_simp; refine hK _ ?_; clear hK K)))
      refine mix_done ?_
      go_wp2_with fail
      go_meet
      exact ⟨by rw [HV.out], HC.out⟩
    have e5 : decide ((0 : Int) < dn) = true := by simp; omega
    by_cases c6 : sp = 255
    · subst c6
      have hDv : D = true := by first | exact HBAD.out.mp (by omega) | (cases hDc : D; (first | rfl | (exact absurd (HBAD.out.mpr hDc) (by omega))); (first | rfl | (exact absurd (HBAD.out.mpr hDc) (by omega))))
      have HV := Lib.hid hDv
      clear hDv HBAD 
      (refine wp_region_mix [0, 1, 2, 3, 4, 5, 6, 7, 8, 9, 10, 11, 12, 13, 14, 15, 16, 17, 18, 19, 20, 21, 22, 23, 24, 25, 26, 27, 28, 29, 30, 31, 32, 33, 34, 35, 36, 37, 38, 39, 40, 41, 42, 43, 44, 45, 46, 47, 48, 49] [(true, true), (true, false), (true, true), (true, true), (true, false), (true, true), (true, true), (true, true), (true, false), (true, true), (true, true), (true, true), (true, false), (true, true), (true, true), (true, true), (true, false), (true, true), (true, false), (true, true), (true, true), (true, true), (true, true), (true, true), (true, true), (true, false), (true, true), (true, true), (true, true), (true, true), (true, false), (true, false), (false, true), (true, true), (true, true), (true, true), (true, true), (true, false), (true, true), (true, true), (true, true), (true, false), (true, true), (true, true), (true, true), (true, false), (true, true), (true, true), (true, true), (true, true)] [0, 1, 3, 0, 8, 31, 63, 127, 255, 511, 1023, 2047, 4095, 8191, 16383, 32767, 65535, 32767, 163839, 524287, 1048575, 2097151, 4194303, 8388607, 16777215, 33554431, 67108863, 134217727, 268435455, 536870911, 1073741823, 536870911, 2684354559, 8589934591, 17179869183, 34359738367, 68719476735, 137438953471, 274877906943, 549755813887, 1099511627775, 2199023255551, 4398046511103, 8796093022207, 17592186044415, 35184372088831, 70368744177663, 140737488355327, 281474976710655, 562949953421311] (fun w' => Below w2.heap.size w2 w') (by kernel_rfl) (by kernel_rfl) ?_ ?_; rotate_left; simp only [pickL, List.map_cons, List.map_nil, List.getD_cons_succ, List.getD_cons_zero])
      rotate_left
      focus exact (Below.refl _ _).drew
      (repeat (first | (refine mix_pure (fun hne K hK => ?_); go_simp; refine hK _ ?_; clear hK K hne) | (refine mix_load ?_ (fun K hK => ?_); (focus (first | rfl | (go_simp; done))); apply Exists.intro; apply And.intro; (focus (intro w' hC; go_simp; exact rfl)); go_simp; refine hK _ ?_; clear hK K) | (refine mix_skip ?_ (fun K hK => ?_); (focus (first | rfl | (go_simp; done))); go_simp; refine hK _ ?_; clear hK K)))
      (refine mix_one (by first | rfl | (go_simp; done)) (fun R hR hX => ?_))
      go_wp2_with fail
      refine (virt_calls n b p s _ ⟨by omega, by omega⟩).mono ?_
      rintro e w3 ⟨rfl, hb3⟩
      have hC : Below w2.heap.size w2 w3 := (Below.refl _ _).drew.trans (hb3.mono (Nat.le_refl _))
      have HC := Lib.hid hC
      clear hb3
      go_wp2_with fail
      refine hR _ _ rfl ⟨_, hC, fun _ => rfl, ?_⟩
      clear hR hX R hC
      (repeat (first | (refine mix_pure (fun hne K hK => ?_); go_simp; refine hK _ ?_; clear hK K hne) | (refine mix_load ?_ (fun K hK => ?_); (focus (first | rfl | (go_simp; done))); apply Exists.intro; apply And.intro; (focus (intro w' hC; go_simp; exact rfl)); go_simp; refine hK _ ?_; clear hK K) | (refine mix_skip ?_ (fun K hK => ?_); (focus (first | rfl | (go_simp; done))); go_simp; refine hK _ ?_; clear hK K)))
      refine mix_done ?_
      go_wp2_with fail
      go_meet
      exact ⟨by rw [HV.out], HC.out⟩
    have e6 : (sp == 255) = false := by simpa using c6
    have hDv : D = false := by first | exact HBAD.out.mp (by omega) | (cases hDc : D; (first | rfl | (exact absurd (HBAD.out.mpr hDc) (by omega))); (first | rfl | (exact absurd (HBAD.out.mpr hDc) (by omega))))
    have HV := Lib.hid hDv
    clear hDv HBAD 
    (refine wp_region_mix [0, 1, 2, 3, 4, 5, 6, 7, 8, 9, 10, 11, 12, 13, 14, 15, 16, 17, 18, 19, 20, 21, 22, 23, 24, 25, 26, 27, 28, 29, 30, 31, 32, 33, 34, 35, 36, 37, 38, 39, 40, 41, 42, 43, 44, 45, 46, 47, 48, 49] [(true, true), (true, false), (true, true), (true, true), (true, false), (true, true), (true, true), (true, true), (true, false), (true, true), (true, true), (true, true), (true, false), (true, true), (true, true), (true, true), (true, false), (true, true), (true, false), (true, true), (true, true), (true, true), (true, true), (true, true), (true, true), (true, false), (true, true), (true, true), (true, true), (true, true), (true, false), (true, false), (false, true), (true, true), (true, true), (true, true), (true, true), (true, false), (true, true), (true, true), (true, true), (true, false), (true, true), (true, true), (true, true), (true, false), (true, true), (true, true), (true, true), (true, true)] [0, 1, 3, 0, 8, 31, 63, 127, 255, 511, 1023, 2047, 4095, 8191, 16383, 32767, 65535, 32767, 163839, 524287, 1048575, 2097151, 4194303, 8388607, 16777215, 33554431, 67108863, 134217727, 268435455, 536870911, 1073741823, 536870911, 2684354559, 8589934591, 17179869183, 34359738367, 68719476735, 137438953471, 274877906943, 549755813887, 1099511627775, 2199023255551, 4398046511103, 8796093022207, 17592186044415, 35184372088831, 70368744177663, 140737488355327, 281474976710655, 562949953421311] (fun w' => Below w2.heap.size w2 w') (by kernel_rfl) (by kernel_rfl) ?_ ?_; rotate_left; simp only [pickL, List.map_cons, List.map_nil, List.getD_cons_succ, List.getD_cons_zero])
    rotate_left
    focus exact (Below.refl _ _).drew
    (repeat (first | (refine mix_pure (fun hne K hK => ?_); go_simp; refine hK _ ?_; clear hK K hne) | (refine mix_load ?_ (fun K hK => ?_); (focus (first | rfl | (go_simp; done))); apply Exists.intro; apply And.intro; (focus (intro w' hC; go_simp; exact rfl)); go_simp; refine hK _ ?_; clear hK K) | (refine mix_skip ?_ (fun K hK => ?_); (focus (first | rfl | (go_simp; done))); go_simp; refine hK _ ?_; clear hK K)))
    (refine mix_one (by first | rfl | (go_simp; done)) (fun R hR hX => ?_))
    go_wp2_with fail
    refine (virt_calls n b p s _ ⟨by omega, by omega⟩).mono ?_
    rintro e w3 ⟨rfl, hb3⟩
    have hC : Below w2.heap.size w2 w3 := (Below.refl _ _).drew.trans (hb3.mono (Nat.le_refl _))
    have HC := Lib.hid hC
    clear hb3
    go_wp2_with fail
    refine hR _ _ rfl ⟨_, hC, fun _ => rfl, ?_⟩
    clear hR hX R hC
    (repeat (first | (refine mix_pure (fun hne K hK => ?_); go_simp; refine hK _ ?_; clear hK K hne) | (refine mix_load ?_ (fun K hK => ?_); (focus (first | rfl | (go_simp; done))); apply Exists.intro; apply And.intro; (focus (intro w' hC; go_simp; exact rfl)); go_simp; refine hK _ ?_; clear hK K) | (refine mix_skip ?_ (fun K hK => ?_); (focus (first | rfl | (go_simp; done))); go_simp; refine hK _ ?_; clear hK K)))
    refine mix_done ?_
    go_wp2_with fail
    go_meet
    exact ⟨by rw [HV.out], HC.out⟩
  case rest =>
    obtain ⟨rfl, hbc⟩ := hcut
    have hBc := HX2.out.1.trans (hbc.mono HX2.out.1.size)
    have HC := Lib.hid (⟨hBc, heap_keep hbc HX2.out.2.1, heap_keep hbc HX2.out.2.2.1, HX2.out.2.2.2.1.below hbc, HX2.out.2.2.2.2⟩ : _ ∧ _ ∧ _ ∧ _ ∧ _)
    clear hbc hBc HX2
    cases D
    rotate_left
    · have hE := HN.out (fun h => h.1 (by have h2 := HBAD.out.mpr rfl; rw [HLN.out] at h2; exact h2)) wc HC.out.1
      have HE := Lib.hid hE
      clear hE HBAD HC
      go_wp2_with fail
      exact HE.out
    have hnb : ¬ ((ln : Int) ≠ (n : Int) ∨ (dd ≠ 255 ∧ (dd < 0 ∨ (n : Int) ≤ dd)) ∨ dn < 0 ∨ (b : Int) - 5 < dn ∨ (0 < dn ∧ (dd = 255 ∨ sp = 255))) := fun h => by have := HBAD.out.mp h; cases this
    obtain rfl : n = ln := by omega
    have HNB := Lib.hid hnb
    clear hnb HBAD
    have hmk : ∀ w, (Instr.makeSlice 22 (.int .i64 ((n : Int) + 1)) (.int .i64 ((n : Int) + 1))).run Try.prog w = .ok (.slice (some ⟨w.heap.size, 0, none⟩) (n + 1) (n + 1)) (w.alloc (.cells (madeCells #[.int .i64 0] (n + 1)) 3)) := fun w => by
      have := make_any Try.underlying22 infoI64 (n + 1) (by omega) (by omega) w
      rw [Nat.mul_one, Int.natCast_add] at this
      exact this
    obtain ⟨sb, hsb⟩ : ∃ sb, sb = wc.heap.size := ⟨_, rfl⟩
    obtain ⟨w3, hw3⟩ : ∃ w3, w3 = wc.alloc (.cells (madeCells #[.int .i64 0] (n + 1)) 3) := ⟨_, rfl⟩
    have hb3 : Below wc.heap.size wc w3 := by rw [hw3]; exact (Below.refl _ _).alloc (Nat.le_refl _) _
    have hsz3 : w3.heap.size = sb + 1 := by rw [hw3, hsb]; simp
    have hseen : w3.ownsRow sb 3 1 (.slice (some ⟨sb, 0, none⟩) (n + 1) (n + 1)) (n + 1) (seenRow n []) := by
      have hmr : madeCells #[Value.int .i64 0] (n + 1) = (List.replicate (n + 1) (Value.int .i64 0)).toArray := made_rep (.int .i64 0) rfl (n + 1)
      rw [hmr] at hw3
      have := World.ownsRow_lit (base := sb) (e := 3) (size := 1) wc (List.replicate (n + 1) (Value.int .i64 0)).toArray (n + 1) (by omega) (by unfold maxLen; omega) (by simp)
      rw [← hsb] at this
      rw [← seen_zero, hw3]
      simpa using this
    have H3 := Lib.hid (⟨hseen, HC.out.1.trans (hb3.mono HC.out.1.size), heap_keep hb3 HC.out.2.1, heap_keep hb3 HC.out.2.2.1, HC.out.2.2.2.1.below hb3, hsz3⟩ : _ ∧ _ ∧ _ ∧ _ ∧ _ ∧ _)
    have hqs : q + 1 < sb := by rw [hsb]; exact heap_lt HC.out.2.2.1
    have HW3 := Lib.hid hw3
    have k0 := cells_at HC.out.2.2.1 0 _ rfl
    simp only [List.getElem_toArray, List.getElem_cons_succ, List.getElem_cons_zero] at k0
    have hlg := heap_lt HC.out.2.2.1
    clear hseen hb3 hsz3 hw3
    go_upto_region 7 with (fail)
    rw [← hsb, ← HW3.out]
    clear HW3 hsb hmk k0 hlg
    have hxl : xs.length = n := HLN.out.symm
    have HXL := Lib.hid hxl
    have hv3 : RV w3 (.slice a n cap) (xs.map i64v) := H3.out.2.2.2.2.1.c
    have hnil : w3.ownsRow (sb + 1) 3 1 (.slice none 0 0) 0 [] := World.ownsRow_nil _ _ _ _
    have p1 := cells_at H3.out.2.2.1 1 _ rfl
    simp only [List.getElem_toArray, List.getElem_cons_succ, List.getElem_cons_zero] at p1
    have hlq := heap_lt H3.out.2.2.1
    clear hxl
    go_wp2_with (at_builtin; (refine wpList_append_RV rfl _ _ 22 rfl (sb + 1) 3 ti (.int .i64 0) 8 Try.underlying22 hti hz0 hz1 hz2 rfl (.slice none 0 0) 0 [] rfl hnil _ _ rfl hv3 (oneCell_i64 _) ?c1 ?c2 ?c3 ?_))
    case c1 => simp only [maxLen, List.length_map]; have := HXL.out; omega
    case c2 => simp only [List.length_map]; have := HXL.out; omega
    case c3 => rw [H3.out.2.2.2.2.2]; exact Nat.le_refl _
    intro v4 w4 hown4 hg4 _
    have hown4 : w4.ownsRow (sb + 1) 3 1 v4 n (xs.map i64v) := by simpa [HXL.out] using hown4
    obtain ⟨a4, c4, rfl⟩ := own_slice hown4
    have hb34 := below_grown_none hg4
    have H4 := Lib.hid (⟨hown4, own_only H3.out.1 (Only.new hb34 fun _ => False) (fun _ _ => id), H3.out.2.1.trans (hb34.mono H3.out.2.1.size), heap_keep hb34 H3.out.2.2.1, heap_keep hb34 H3.out.2.2.2.1, (by have := hb34.size; rw [H3.out.2.2.2.2.2] at this; exact this : sb + 1 ≤ w4.heap.size)⟩ : _ ∧ _ ∧ _ ∧ _ ∧ _ ∧ _)
    clear hown4 hg4 hb34 hv3 hnil p1 hlq H3
    obtain ⟨L, hL⟩ : ∃ L, L = (if sp = 255 then xs else xs ++ [sp]) := ⟨_, rfl⟩
    obtain ⟨m, hm⟩ : ∃ m, m = L.length := ⟨_, rfl⟩
    have hm17 : 1 ≤ m ∧ m ≤ 17 := by
      rw [hm, hL]
      have := HXL.out
      split
      · omega
      · simp; omega
    have HL := Lib.hid (⟨hL, hm⟩ : _ ∧ _)
    clear hL hm
    have p2 := cells_at H4.out.2.2.2.1 2 _ rfl
    simp only [List.getElem_toArray, List.getElem_cons_succ, List.getElem_cons_zero] at p2
    have hlq := heap_lt H4.out.2.2.2.1
    go_upto_if 74 with (fail)
    go_cut [7] (fun s7 wx => ∃ gl cl, s7 = .slice (some ⟨gl, 0, none⟩) m cl ∧ wx.ownsRow (sb + 1) 3 1 (.slice (some ⟨gl, 0, none⟩) m cl) m (L.map i64v) ∧ wx.ownsRow sb 3 1 (.slice (some ⟨sb, 0, none⟩) (n + 1) (n + 1)) (n + 1) (seenRow n []) ∧ Below w.heap.size w wx ∧ wx.heap[q + 1]? = some (.cells #[.int .i64 n, .int .i64 b, .int .i64 p, .int .i64 s] 28 (0, 0)))
    case first =>
      by_cases hs : sp = 255
      · subst hs
        have hLx : L = xs := by rw [HL.out.1, if_pos rfl]
        have hmn : n = m := by rw [HL.out.2, hLx]; exact HXL.out.symm
        subst hmn
        rcases H4.out.1.2 with ⟨-, h0⟩ | ⟨gl, cl, cur, he, -⟩
        · exfalso; omega
        simp only [Value.slice.injEq] at he
        obtain ⟨rfl, -, rfl⟩ := he
        have hr : w4.ownsRow (sb + 1) 3 1 (.slice (some ⟨gl, 0, none⟩) n c4) n (L.map i64v) := by rw [hLx]; exact H4.out.1
        have HR := Lib.hid (⟨hr, H4.out.2.1, H4.out.2.2.1, H4.out.2.2.2.2.1⟩ : _ ∧ _ ∧ _ ∧ _)
        clear hr
        clear hLx
        go_wp2_with fail
        go_meet
        exact ⟨gl, c4, rfl, HR.out⟩
      · have e1 : (sp != 255) = true := by simpa using hs
        have hLx : L = xs ++ [sp] := by rw [HL.out.1, if_neg hs]
        have hmn : m = n + 1 := by rw [HL.out.2, hLx]; have := HXL.out; simp; omega
        subst hmn
        have hown4a := H4.out.1.alloc (.cells #[.int .i64 sp] 3)
        have hsn4a := H4.out.2.1.alloc (.cells #[.int .i64 sp] 3)
        have hal5 := (Below.refl w4.heap.size w4).alloc (Nat.le_refl _) (.cells #[.int .i64 sp] 3)
        have hB5 := H4.out.2.2.1.trans (hal5.mono H4.out.2.2.1.size)
        have hG5 := heap_keep hal5 H4.out.2.2.2.2.1
        have hrv : RV (w4.alloc (.cells #[.int .i64 sp] 3)) (.slice (some ⟨w4.heap.size, 0, none⟩) 1 1) [.int .i64 sp] := RV.cells (n := 1) (heap_is rfl) rfl (by decide) rfl
        have hsz5 : sb + 1 ≤ (w4.alloc (.cells #[.int .i64 sp] 3)).heap.size := Nat.le_trans H4.out.2.2.2.2.2 hal5.size
        have H5 := Lib.hid (⟨hsn4a, hB5, hG5, Nat.le_of_succ_le hsz5⟩ : _ ∧ _ ∧ _ ∧ _)
        clear hsn4a hal5 hB5 hG5 hs
        go_wp2_with (at_builtin; (refine wpList_append_RV rfl _ _ 22 rfl (sb + 1) 3 ti (.int .i64 0) 8 Try.underlying22 hti hz0 hz1 hz2 rfl (.slice a4 n c4) n _ rfl hown4a _ _ rfl hrv (one_cell rfl) ?c1 ?c2 ?c3 ?_))
        case c1 => simp only [maxLen, List.length_cons, List.length_nil]; omega
        case c2 => simp only [List.length_cons, List.length_nil]; omega
        case c3 => exact hsz5
        intro v5 w5 hown5 hg5 _
        have hbs := below_pushed (Below.refl sb (w4.alloc (.cells #[.int .i64 sp] 3))) hown4a hg5 H5.out.2.2.2 (by omega)
        have hB := below_pushed H5.out.2.1 hown4a hg5 H5.out.2.1.size (by have := HC.out.2.2.2.2; omega)
        have hsn5 := H5.out.1.kept hg5 (.inr (fun h => by have := (hown4a.lt sb h.symm).1; omega))
        have hG5 := (hbs.block (q + 1) hqs).trans H5.out.2.2.1
        have hown5' : w5.ownsRow (sb + 1) 3 1 v5 (n + 1) (L.map i64v) := by rw [hLx, List.map_append]; exact hown5
        rcases hown5'.2 with ⟨-, h0⟩ | ⟨gl, cl, cur, rfl, -⟩
        · exfalso; omega
        have HR := Lib.hid (⟨hown5', hsn5, hB, hG5⟩ : _ ∧ _ ∧ _ ∧ _)
        clear hown5 hown5' hg5 hbs hB hsn5 hG5 hown4a hrv hsz5 H5 hLx
        go_wp2_with fail
        go_meet
        exact ⟨gl, cl, rfl, HR.out⟩
    case rest =>
      obtain ⟨gl, cl, rfl, hLr, hsn, hbel, hgeo⟩ := hcut
      have hLl : L.length = m := HL.out.2.symm
      have HLl := Lib.hid hLl
      have H0 := Lib.hid (⟨hsn, hLr, hbel, hgeo⟩ : _ ∧ _ ∧ _ ∧ _)
      have hgood : GoodL n L ↔ (⟨sq, xs, sp, dd, dn⟩ : Ms).Ok n b := by
        unfold Ms.Ok Ms.list Ms.bad
        simp only
        rw [← HL.out.1]
        have := HNB.out
        rw [HXL.out]
        exact ⟨fun h => ⟨this, h⟩, fun h => h.2⟩
      have HGD0 := Lib.hid hgood
      clear hLl hLr hsn hbel hgeo hgood p2 hlq H4
      go_wp2_with fail
      go_loopw [82] (fun x82 wr => ∃ i : Nat, i ≤ m ∧ x82 = .int .i64 i ∧ wr.ownsRow sb 3 1 (.slice (some ⟨sb, 0, none⟩) (n + 1) (n + 1)) (n + 1) (seenRow n (L.take i)) ∧
        wr.ownsRow (sb + 1) 3 1 (.slice (some ⟨gl, 0, none⟩) m cl) m (L.map i64v) ∧ Below w.heap.size w wr ∧ wr.heap[q + 1]? = some (.cells #[.int .i64 n, .int .i64 b, .int .i64 p, .int .i64 s] 28 (0, 0)) ∧ (∀ (j : Nat) (h : j < L.length), j < i → 0 ≤ L[j] ∧ L[j] ≤ (n : Int) ∧ L[j] ∉ L.take j)) (fun x82 _ => m - (intOf x82).toNat)
      case atStart => exact ⟨0, Nat.zero_le _, rfl, by simpa using H0.out.1, H0.out.2.1, H0.out.2.2.1, H0.out.2.2.2, fun j _ h => by omega⟩
      case round =>
        clear H0
        obtain ⟨i, hi, rfl, hseen, hL, hbel, hgeo, hgood⟩ := hrel
        have hwz := (hseen.lt _ rfl).2
        have q0 := cells_at hgeo 0 _ rfl
        simp only [List.getElem_toArray, List.getElem_cons_succ, List.getElem_cons_zero] at q0
        have hlg := heap_lt hgeo
        have HGE := Lib.hid hgeo
        have HGD := Lib.hid hgood
        have HB0 := Lib.hid hbel
        clear hgood hbel hgeo
        by_cases hin : i < m
        · have hiL : i < L.length := by have := HLl.out; omega
          have hc := hL.cellAt (j := i) (by omega)
          have hci : (L.map i64v)[i]? = some (i64v (L[i]'hiL)) := by simp [hiL]
          rw [hci] at hc
          have htk : L.take (i + 1) = L.take i ++ [L[i]'hiL] := List.take_succ_eq_append_getElem hiL
          have hbad : ¬ (0 ≤ L[i]'hiL ∧ L[i]'hiL ≤ (n : Int) ∧ L[i]'hiL ∉ L.take i) → Post (.returned (.int .i64 62)) wr := fun h => HN.out (fun hok => h ((HGD0.out.mpr hok) i hiL)) wr HB0.out
          have hgnx : (0 ≤ L[i]'hiL ∧ L[i]'hiL ≤ (n : Int) ∧ L[i]'hiL ∉ L.take i) → ∀ (j : Nat) (h : j < L.length), j < i + 1 → 0 ≤ L[j] ∧ L[j] ≤ (n : Int) ∧ L[j] ∉ L.take j := fun h j hj hj2 => by
            by_cases e : j = i
            · subst e; exact h
            · exact HGD.out j hj (by omega)
          generalize L[i]'hiL = x at hc htk hbad hgnx
          have HBd := Lib.hid hbad
          have HNx := Lib.hid hgnx
          have HT := Lib.hid htk
          have hi2 : (i : Int) < (m : Int) := by omega
          clear hbad hgnx htk hci hiL
          by_cases hx0 : x < 0
          · have e1 : decide (x < 0) = true := by simp; omega
            have HE := Lib.hid (HBd.out (fun h => by omega))
            go_wp2_with fail
            exact HE.out
          · by_cases hxn : (n : Int) < x
            · have e1 : decide (x < 0) = false := by simp; omega
              have e2 : decide ((n : Int) < x) = true := by simp; omega
              have HE := Lib.hid (HBd.out (fun h => by omega))
              go_wp2_with fail
              exact HE.out
            · obtain ⟨k, rfl⟩ : ∃ k : Nat, x = k := ⟨x.toNat, by omega⟩
              have hkn : k ≤ n := by omega
              have hkn2 : ¬ n < k := by omega
              have hkn3 : k < n + 1 := by omega
              have hkn4 : (k : Int) < (n : Int) + 1 := by omega
              have hcm := hseen.cellAt (j := k) (by omega)
              rw [seen_get _ _ _ hkn] at hcm
              by_cases hmem : (k : Int) ∈ L.take i
              · rw [if_pos hmem] at hcm
                have HE := Lib.hid (HBd.out (fun h => h.2.2 hmem))
                clear hx0 hxn hmem
                go_wp2_with fail
                exact HE.out
              · rw [if_neg hmem] at hcm
                have hst := hseen.stored k (i64v 1)
                rw [seen_set _ _ _ hkn, ← HT.out] at hst
                have hLs := ownsRow_setCell_below (a := ⟨sb, k, none⟩) hL (by show sb < _; omega) (i64v 1)
                have hfr := hseen.frozenAt k
                have hgd := HNx.out ⟨by omega, by omega, hmem⟩
                have hbn := HB0.out.grown hst.2 HB0.out.size (fun z hz => by cases hz; have := HC.out.2.2.2.2; omega)
                have hgn := set_other (a := ⟨sb, k, none⟩) (i64v 1) HGE.out (by show q + 1 ≠ sb; omega)
                have HST := Lib.hid (⟨hst.1, hLs, hbn, hgn, hgd⟩ : _ ∧ _ ∧ _ ∧ _ ∧ _)
                clear hst hLs hgd hmem hx0 hxn hbn hgn
                go_wp2_with fail
                go_roundw
                case rel => exact ⟨i + 1, by omega, by go_num, HST.out⟩
                case measure => simp [intOf]; omega
        · have hgd : GoodL n L := fun j hj => HGD.out j hj (by have := HLl.out; omega)
          have HE := Lib.hid (HY.out (HGD0.out.mp hgd) wr HB0.out)
          clear hgd
          have hi2 : ¬ (i : Int) < (m : Int) := by omega
          go_wp2_with fail
          exact HE.out
end Go.Proofs.Ytogejjbclimjjaa
