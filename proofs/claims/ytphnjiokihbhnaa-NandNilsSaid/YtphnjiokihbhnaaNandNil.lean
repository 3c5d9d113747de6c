/- nand: what a nil array does. -/
--only r2
import Derived.Test.YtphnjiokihbhnaaNandRead
namespace Go.Proofs.Ytphnjiokihbhnaa
set_option linter.unusedVariables false
set_option linter.unusedSimpArgs false
open Go.RowKit

/-- an end of a call that turns nothing old -/
def Gives (v : Value) (w : World) (e : Ending) (w' : World) : Prop := e = .returned v ∧ Below w.heap.size w w'
theorem Gives.post {v : Value} {w : World} {Post : Ending → World → Prop} (h : ∀ w', Below w.heap.size w w' → Post (.returned v) w') : ∀ e w', Gives v w e w' → Post e w' := fun e w' ⟨he, hb⟩ => he ▸ h w' hb

set_option maxHeartbeats 1000000 in
theorem nil_begin (c b : Int) (w : World) : Calls Try.prog 34 #[.pointer none, .int .i64 c, .int .i64 b] w (Gives (.tuple #[.pointer none, evZ, .int .i64 60]) w) := by
  go_enter Try.func34, Try.ntmps34
  go_wp2_with fail
  have hR : (w.alloc (.cells #[.int .i64 0, .int .i64 0, .int .i64 0, .slice none 0 0] 92)).heap[w.heap.size]? = some (.cells #[.int .i64 0, .int .i64 0, .int .i64 0, .slice none 0 0] 92 (0, 0)) := heap_is rfl
  have hbel := (Below.refl w.heap.size w).alloc (Nat.le_refl _) (.cells #[.int .i64 0, .int .i64 0, .int .i64 0, .slice none 0 0] 92)
  first
    | exact bodyPost_ret (res_tct rfl rfl hR Try.underlying92 rfl (by kernel_rfl)) rfl ⟨rfl, hbel⟩
    | exact bodyPost_ret (res_tct rfl rfl (set4 hR) Try.underlying92 rfl (by kernel_rfl)) rfl ⟨rfl, put4 hbel _ _ _ _ _ (Nat.le_refl _)⟩

set_option maxHeartbeats 1000000 in
theorem nil_read (c b p : Int) (w : World) : Calls Try.prog 17 #[.pointer none, .int .i64 c, .int .i64 b, .int .i64 p] w (Gives (.tuple #[.slice none 0 0, .slice none 0 0, .int .i64 60]) w) := by
  have hB := nil_begin c b
  go_enter Try.func17, Try.ntmps17
  go_wp2_with fail
  refine (hB w).mono ?_
  rintro e w1 ⟨rfl, hb⟩
  simp only [evZ]
  go_wp2_with fail
  exact bodyPost_ret (res_ttt rfl) rfl ⟨rfl, hb.alloc hb.size _⟩
set_option maxHeartbeats 1000000 in
theorem nil_prog (c b p : Int) (vd vo : Value) (w : World) : Calls Try.prog 14 #[.pointer none, .int .i64 c, .int .i64 b, .int .i64 p, vd, vo] w (Gives (.int .i64 60) w) := by
  have hB := nil_begin c b
  have hfin : ∀ w', Below w.heap.size w w' → Gives (.int .i64 60) w (.returned (.int .i64 60)) w' := fun w' h => ⟨rfl, h⟩
  generalize Gives (.int .i64 60) w = Post at hfin ⊢
  go_enter Try.func14, Try.ntmps14
  go_wp2_with fail
  refine (hB w).mono ?_
  rintro e w1 ⟨rfl, hb⟩
  simp only [evZ]
  go_wp2_with fail
  exact hb.alloc hb.size _
set_option maxHeartbeats 1000000 in
theorem nil_erase (c b : Int) (w : World) : Calls Try.prog 13 #[.pointer none, .int .i64 c, .int .i64 b] w (Gives (.int .i64 60) w) := by
  have hB := nil_begin c b
  have hfin : ∀ w', Below w.heap.size w w' → Gives (.int .i64 60) w (.returned (.int .i64 60)) w' := fun w' h => ⟨rfl, h⟩
  generalize Gives (.int .i64 60) w = Post at hfin ⊢
  go_enter Try.func13, Try.ntmps13
  go_wp2_with fail
  refine (hB w).mono ?_
  rintro e w1 ⟨rfl, hb⟩
  simp only [evZ]
  go_wp2_with fail
  exact hb.alloc hb.size _
set_option maxHeartbeats 1000000 in
theorem nil_geo (w : World) : Calls Try.prog 30 #[.pointer none] w (Gives (.agg #[.int .i64 0, .int .i64 0, .int .i64 0, .int .i64 0]) w) := by
  go_enter Try.func30, Try.ntmps30
  go_wp2_with fail
  have hR : (w.alloc (.cells #[.int .i64 0, .int .i64 0, .int .i64 0, .int .i64 0] 29)).heap[w.heap.size]? = some (.cells #[.int .i64 0, .int .i64 0, .int .i64 0, .int .i64 0] 29 (0, 0)) := heap_is rfl
  have hbel := (Below.refl w.heap.size w).alloc (Nat.le_refl _) (.cells #[.int .i64 0, .int .i64 0, .int .i64 0, .int .i64 0] 29)
  first
    | exact bodyPost_ret (res_c rfl rfl hR Try.underlying29 rfl (by kernel_rfl)) rfl ⟨rfl, hbel⟩
    | exact bodyPost_ret (res_c rfl rfl (set4 hR) Try.underlying29 rfl (by kernel_rfl)) rfl ⟨rfl, put4 hbel _ _ _ _ _ (Nat.le_refl _)⟩

set_option maxHeartbeats 1000000 in
theorem nil_boot (w : World) : Calls Try.prog 26 #[.pointer none] w fun e w' => e = .returned (.tuple #[]) ∧ w = w' := by
  go_enter Try.func26, Try.ntmps26
  go_wp2_with fail
  ((try simp only [Exit.inBlock, Exit.then]); (first | refine bodyPost_end (results_none rfl _ _ _) rfl ?_ | refine bodyPost_ret (results_none rfl _ _ _) rfl ?_))
  exact ⟨rfl, rfl⟩
set_option maxHeartbeats 1000000 in
theorem nil_kill (n : Int) (w : World) : Calls Try.prog 27 #[.pointer none, .int .i64 n] w fun e w' => e = .returned (.tuple #[]) ∧ w = w' := by
  go_enter Try.func27, Try.ntmps27
  go_wp2_with fail
  ((try simp only [Exit.inBlock, Exit.then]); (first | refine bodyPost_end (results_none rfl _ _ _) rfl ?_ | refine bodyPost_ret (results_none rfl _ _ _) rfl ?_))
  exact ⟨rfl, rfl⟩
set_option maxHeartbeats 1000000 in
theorem nil_chips (w : World) : Calls Try.prog 28 #[.pointer none] w fun e w' => e = .returned (.int .i64 0) ∧ w = w' := by
  go_enter Try.func28, Try.ntmps28
  go_wp2_with fail
  go_ret
  exact ⟨rfl, rfl⟩
set_option maxHeartbeats 1000000 in
theorem nil_ops (w : World) : Calls Try.prog 20 #[.pointer none] w fun e w' => e = .returned (.int .i64 0) ∧ w = w' := by
  go_enter Try.func20, Try.ntmps20
  go_wp2_with fail
  go_ret
  exact ⟨rfl, rfl⟩
set_option maxHeartbeats 1000000 in
theorem nil_off (w : World) : Calls Try.prog 21 #[.pointer none] w fun e w' => e = .returned (.bool false) ∧ w = w' := by
  go_enter Try.func21, Try.ntmps21
  go_wp2_with fail
  go_ret
  exact ⟨rfl, rfl⟩
set_option maxHeartbeats 1000000 in
theorem nil_dead (n : Int) (w : World) : Calls Try.prog 23 #[.pointer none, .int .i64 n] w fun e w' => e = .returned (.bool true) ∧ w = w' := by
  go_enter Try.func23, Try.ntmps23
  go_wp2_with fail
  go_ret
  exact ⟨rfl, rfl⟩
set_option maxHeartbeats 1000000 in
theorem nil_erases (n : Int) (w : World) : Calls Try.prog 22 #[.pointer none, .int .i64 n] w fun e w' => e = .returned (.slice none 0 0) ∧ w = w' := by
  go_enter Try.func22, Try.ntmps22
  go_wp2_with fail
  go_ret
  exact ⟨rfl, rfl⟩
set_option maxHeartbeats 1000000 in
theorem nil_dump (w : World) : Calls Try.prog 24 #[.pointer none] w fun e w' => e = .returned (.slice none 0 0) ∧ w = w' := by
  go_enter Try.func24, Try.ntmps24
  go_wp2_with fail
  go_ret
  exact ⟨rfl, rfl⟩
set_option maxHeartbeats 1000000 in
theorem nil_copy (w : World) : Calls Try.prog 29 #[.pointer none, .slice none 0 0] w fun e w' => e = .returned (.pointer none) ∧ w = w' := by
  go_enter Try.func29, Try.ntmps29
  go_wp2_with fail
  go_ret
  exact ⟨rfl, rfl⟩
end Go.Proofs.Ytphnjiokihbhnaa
