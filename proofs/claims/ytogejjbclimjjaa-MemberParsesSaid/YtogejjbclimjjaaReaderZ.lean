/- cursor.Reader: Zero. -/
--only r2
import Derived.Test.YtogejjbclimjjaaReader
namespace Go.Proofs.Ytogejjbclimjjaa
set_option linter.unusedVariables false
set_option linter.unusedSimpArgs false
open Go.RowKit

set_option maxRecDepth 100000 in
set_option maxHeartbeats 1000000 in
theorem rZero_calls (r k : Nat) (v : Value) (l : List UInt8) (w : World) (h : Rd w r v l k) :
    Calls Try.prog 47 #[ptrV r] w fun e w' => e = .returned (.bool ((l.drop k).all (· == 0))) ∧ Below w.heap.size w w' := by
  obtain ⟨i, hi, hz0, hz1, hz2⟩ := info_parts infoU8
  have hle := h.le
  have hlm := h.rb.len
  obtain ⟨a, cap, rfl, hc, hm⟩ := h.rb.form
  have hcut : RB w (cutV a cap k l.length) (l.drop k) := by
    have := RV.cut h.rb (i := k) (j := l.length) hle (by simp)
    unfold RB
    rw [← List.map_drop, List.take_of_length_le (by simp)] at this
    exact this
  have hrun := run_cut_from (P := Try.prog) Try.underlying23 hi hz1 a l.length cap k hle
  unfold maxLen at hm hlm
  obtain ⟨m, hmm⟩ : ∃ m, m = l.drop k := ⟨_, rfl⟩
  have hml : l.length - k = m.length := by rw [hmm]; simp
  rw [← hmm] at hcut ⊢
  have hys : ∃ a', cutV a cap k l.length = .slice a' m.length (cap - k) := ⟨_, by unfold cutV; rw [hml]⟩
  obtain ⟨a', hys⟩ := hys
  rw [hys] at hcut hrun
  have hmb : m.length ≤ 9223372036854775807 := by omega
  have hP := h.cell
  clear hmm hys hml
  (have hP_0 := cells_at hP 0 _ rfl; have hP_1 := cells_at hP 1 _ rfl)
  go_enter Try.func47, Try.ntmps47
  go_wp2_with fail
  (refine wp_region_mix [0, 1, 2, 3, 4, 5, 6, 7, 8, 9, 10] [(true, true), (true, true), (true, true), (true, false), (true, true), (true, true), (true, true), (true, false), (true, true), (true, true), (true, true)] [0, 1, 3, 7, 0, 16, 48, 112, 255, 511, 0] _ (by kernel_rfl) (by kernel_rfl) (rfl : _ = _) ?_; simp only [pickL, List.map_cons, List.map_nil, List.getD_cons_succ, List.getD_cons_zero])
  (repeat (first | (refine mix_pure (fun hne K hK => ?_); go_simp; refine hK _ ?_; clear hK K hne) | (refine mix_load ?_ (fun K hK => ?_); (focus (first | rfl | (go_simp; done))); go_simp; refine hK _ ?_; clear hK K) | (refine mix_skip ?_ (fun K hK => ?_); (focus (first | rfl | (go_simp; done))); go_simp; refine hK _ ?_; clear hK K)))
  refine mix_done ?_
  replace hcut := hcut.below (Below.refl w.heap.size w).drew
  have hbel := (Below.refl w.heap.size w).drew
  clear hP_0 hP_1 hP hrun
  generalize w.drew = w1 at hcut hbel ⊢
  go_wp2_with fail
  go_loopw [17] (fun x17 wr => ∃ j : Nat, j ≤ m.length ∧ x17 = .int .i64 j ∧ (m.take j).all (· == 0) = true ∧ Below w1.heap.size w1 wr) (fun x17 _ => m.length - (intOf x17).toNat)
  case atStart => exact ⟨0, Nat.zero_le _, rfl, rfl, Below.refl _ _⟩
  case round =>
    obtain ⟨j, hj, rfl, hall, hb⟩ := hrel
    have HALL := Lib.hid hall
    clear hall
    by_cases hlt : j < m.length
    · have hx' := hcut.below hb
      obtain ⟨b, o, c', ee, _, _, hc'⟩ := hx'.out (by omega)
      simp only [Value.slice.injEq] at ee
      obtain ⟨rfl, -, rfl⟩ := ee
      have hcj := hc' j hlt
      obtain ⟨C, hC⟩ : ∃ C, C = m[j] := ⟨_, rfl⟩
      rw [← hC] at hcj
      have HC := Lib.hid hC
      clear hc' hx' hC
      by_cases h0 : C = 0
      · have h0b : ((C.toNat : Int) != 0) = false := by rw [h0]; rfl
        have H0 := Lib.hid h0
        clear h0
        go_wp2_with fail
        go_roundw
        case rel =>
          refine ⟨j + 1, by omega, by go_num, ?_, hb⟩
          rw [List.take_succ_eq_append_getElem hlt, List.all_append, HALL.out, ← HC.out, H0.out]
          rfl
        case measure => simp [intOf]; omega
      · have h0b : ((C.toNat : Int) != 0) = true := by
          rw [bne_iff_ne]
          intro e
          apply h0
          have : C.toNat = 0 := by omega
          exact UInt8.toNat_inj.mp this
        have hf : m.all (· == 0) = false := by
          rw [List.all_eq_false]
          exact ⟨m[j], List.getElem_mem _, by rw [← HC.out]; simpa using h0⟩
        have HF := Lib.hid hf
        clear h0 hf
        go_wp2_with fail
        go_ret
        exact ⟨by rw [HF.out]; rfl, hbel.trans (hb.mono hbel.size)⟩
    · have hf : m.all (· == 0) = true := by
        have := HALL.out
        rwa [List.take_of_length_le (by omega)] at this
      have HF := Lib.hid hf
      clear hf
      go_wp2_with fail
      go_ret
      exact ⟨by rw [HF.out]; rfl, hbel.trans (hb.mono hbel.size)⟩
end Go.Proofs.Ytogejjbclimjjaa
