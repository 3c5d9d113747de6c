/- Chips: Boot and Kill. -/
--only r2
import Derived.Test.YtphnjiokihbhnaaNandSet
import Derived.Test.YtphnjiokihbhnaaNandAt
namespace Go.Proofs.Ytphnjiokihbhnaa
set_option linter.unusedVariables false
set_option linter.unusedSimpArgs false
open Go.RowKit

set_option maxHeartbeats 1000000 in
theorem boot_calls {w : World} {L : NdLay} {M : Nd} (h : NdAt true w L M) : Calls Try.prog 26 #[ptrV L.p] w fun e w' => e = .returned (.tuple #[]) ∧ NdAt true w' L M.boot ∧ Only L.S w w' := by
  have hT := h.top
  have hP := h.setOff false
  have hO := (Only.of_set w ⟨L.p, 8, none⟩ (.bool false)).mono (S' := L.S) (fun b _ e => by subst e; exact h.Sp)
  have HP := Lib.hid (show (NdAt true _ L M.boot ∧ Only L.S w _) from ⟨hP, hO⟩)
  clear hP hO
  simp only [topCells, if_true] at hT
  (have hT_0 := cells_at hT 0 _ rfl; have hT_1 := cells_at hT 1 _ rfl; have hT_2 := cells_at hT 2 _ rfl; have hT_3 := cells_at hT 3 _ rfl; have hT_4 := cells_at hT 4 _ rfl; have hT_5 := cells_at hT 5 _ rfl; have hT_6 := cells_at hT 6 _ rfl; have hT_7 := cells_at hT 7 _ rfl; have hT_8 := cells_at hT 8 _ rfl)
  have hf8 := froz_at hT 8
  go_enter Try.func26, Try.ntmps26
  go_wp2_with fail
  ((try simp only [Exit.inBlock, Exit.then]); (first | refine bodyPost_end (results_none rfl _ _ _) rfl ?_ | refine bodyPost_ret (results_none rfl _ _ _) rfl ?_))
  exact ⟨rfl, HP.out⟩

set_option maxHeartbeats 1000000 in
theorem kill_calls {w : World} {L : NdLay} {M : Nd} (h : NdAt true w L M) (c : Int) (hi : I64 c) : Calls Try.prog 27 #[ptrV L.p, .int .i64 c] w fun e w' => e = .returned (.tuple #[]) ∧ NdAt true w' L (M.kill c) ∧ Only L.S w w' := by
  have hT := h.top
  simp only [topCells, if_true] at hT
  have hd := h.dead
  (have hT_0 := cells_at hT 0 _ rfl; have hT_1 := cells_at hT 1 _ rfl; have hT_2 := cells_at hT 2 _ rfl; have hT_3 := cells_at hT 3 _ rfl; have hT_4 := cells_at hT 4 _ rfl; have hT_5 := cells_at hT 5 _ rfl; have hT_6 := cells_at hT 6 _ rfl; have hT_7 := cells_at hT 7 _ rfl; have hT_8 := cells_at hT 8 _ rfl)
  by_cases hc : 0 ≤ c ∧ c ≤ M.mem
  · obtain ⟨h0, h1⟩ := hc
    obtain ⟨n, rfl⟩ := Int.eq_ofNat_of_zero_le h0
    have hn : n ≤ M.mem := by omega
    have hP := h.setGone hn true
    have hO := (Only.of_set w ⟨L.dd, n, none⟩ (.bool true)).mono (S' := L.S) (fun b _ e => by subst e; exact h.Sd)
    have hk : M.kill (n : Int) = { M with gone := upd1 M.gone n true } := by
      unfold Nd.kill; rw [if_pos ⟨h0, h1⟩]; rfl
    have HP := Lib.hid (show (NdAt true _ L (M.kill (n : Int)) ∧ Only L.S w _) from ⟨hk ▸ hP, hO⟩)
    clear hP hO hk
    have hcell := hd.cell (show n < M.mem + 1 by omega)
    have hfr := hd.froz n
    go_enter Try.func27, Try.ntmps27
    go_wp2_with fail
    ((try simp only [Exit.inBlock, Exit.then]); (first | refine bodyPost_end (results_none rfl _ _ _) rfl ?_ | refine bodyPost_ret (results_none rfl _ _ _) rfl ?_))
    exact ⟨rfl, HP.out⟩
  · have hk : M.kill c = M := if_neg hc
    rw [hk]
    have HP := Lib.hid (show NdAt true w L M ∧ Only L.S w w from ⟨h, Only.refl _ _⟩)
    clear hk
    go_enter Try.func27, Try.ntmps27
    go_wp2_with fail
    all_goals (((try simp only [Exit.inBlock, Exit.then]); (first | refine bodyPost_end (results_none rfl _ _ _) rfl ?_ | refine bodyPost_ret (results_none rfl _ _ _) rfl ?_)))
    all_goals exact ⟨rfl, HP.out⟩
end Go.Proofs.Ytphnjiokihbhnaa
