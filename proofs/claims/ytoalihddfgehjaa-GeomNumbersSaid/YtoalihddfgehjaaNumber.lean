/- geom.Number, and the reference's: the walks. -/
--only r1
import Derived.Test.YtoalihddfgehjaaAt
import Derived.Test.YtoalihddfgehjaaOnly
namespace Go.Proofs.Ytoalihddfgehjaa.NumberW
set_option linter.unusedVariables false
set_option linter.unusedSimpArgs false
open Go.RowKit Go.Proofs.Ytoalihddfgehjaa.PGeomStripes Go.Proofs.Ytoalihddfgehjaa.AtW

abbrev pV (s r q : Int) : Value := .agg #[.int .i64 s, .int .i64 r, .int .i64 q]
/-- a place's number -/
def numOf (a b c s r q : Int) : Int := if 0 ≤ s ∧ s < b - 5 ∧ 0 ≤ r ∧ r < c ∧ 0 ≤ q ∧ q < a - 1 then (s * c + r) * (a - 1) + q + 1 else 0

theorem wrap64_id {x : Int} (h : -9223372036854775808 ≤ x ∧ x ≤ 9223372036854775807) : wrap64 x = x := by unfold wrap64; omega
theorem width_any (a b c e : Int) (w : World) (ha : 3 ≤ a ∧ a ≤ 16) :
    Calls Try.prog 41 #[gV a b c e] w fun r w' => r = .returned (.int .i64 (a - 1)) ∧ Below w.heap.size w w' := by
  have := width_calls (a - 1).toNat b c e w (by omega)
  rwa [show (((a - 1).toNat : Int)) = a - 1 by omega, show a - 1 + 1 = a by omega] at this

set_option maxHeartbeats 8000000 in
theorem number_calls (a b c e s r q z : Int) (w : World) (hz : api_Geo_Check.f a b c e = some z) (hg : z = 0 → (3 ≤ a ∧ a ≤ 16 ∧ 16 ≤ b ∧ b ≤ 64 ∧ 4 ≤ c ∧ c ≤ 32)) (hzz : z = 34 ∨ z = 0) :
    Calls Try.prog 48 #[gV a b c e, pV s r q] w fun x w' => x = .returned (.int .u32 (if z = 0 then numOf a b c s r q else 0)) ∧ Below w.heap.size w w' := by
  have hchk := fun w => api_Geo_Check.calls a b c e z w hz
  have hcases : (z = 34) ∨ (z = 0 ∧ s < 0) ∨ (z = 0 ∧ 0 ≤ s ∧ b - 5 ≤ s) ∨ (z = 0 ∧ 0 ≤ s ∧ s < b - 5 ∧ r < 0) ∨ (z = 0 ∧ 0 ≤ s ∧ s < b - 5 ∧ 0 ≤ r ∧ c ≤ r) ∨ (z = 0 ∧ 0 ≤ s ∧ s < b - 5 ∧ 0 ≤ r ∧ r < c ∧ q < 0) ∨
      (z = 0 ∧ 0 ≤ s ∧ s < b - 5 ∧ 0 ≤ r ∧ r < c ∧ 0 ≤ q ∧ a - 1 ≤ q) ∨ (z = 0 ∧ 0 ≤ s ∧ s < b - 5 ∧ 0 ≤ r ∧ r < c ∧ 0 ≤ q ∧ q < a - 1) := by
    by_cases c0 : z = 34
    · exact .inl c0
    have z0 : z = 0 := by omega
    by_cases c1 : s < 0
    · exact .inr (.inl ⟨z0, c1⟩)
    have d1 : 0 ≤ s := by omega
    by_cases c2 : b - 5 ≤ s
    · exact .inr (.inr (.inl ⟨z0, d1, c2⟩))
    have d2 : s < b - 5 := by omega
    by_cases c3 : r < 0
    · exact .inr (.inr (.inr (.inl ⟨z0, d1, d2, c3⟩)))
    have d3 : 0 ≤ r := by omega
    by_cases c4 : c ≤ r
    · exact .inr (.inr (.inr (.inr (.inl ⟨z0, d1, d2, d3, c4⟩))))
    have d4 : r < c := by omega
    by_cases c5 : q < 0
    · exact .inr (.inr (.inr (.inr (.inr (.inl ⟨z0, d1, d2, d3, d4, c5⟩)))))
    have d5 : 0 ≤ q := by omega
    by_cases c6 : a - 1 ≤ q
    · exact .inr (.inr (.inr (.inr (.inr (.inr (.inl ⟨z0, d1, d2, d3, d4, d5, c6⟩))))))
    · exact .inr (.inr (.inr (.inr (.inr (.inr (.inr ⟨z0, d1, d2, d3, d4, d5, by omega⟩))))))
  have hR0 : ¬ (z = 0 ∧ 0 ≤ s ∧ s < b - 5 ∧ 0 ≤ r ∧ r < c ∧ 0 ≤ q ∧ q < a - 1) → (if z = 0 then numOf a b c s r q else 0) = 0 := fun h => by
    unfold numOf
    split
    · rw [if_neg fun x => h ⟨by assumption, x⟩]
    · rfl
  have hR1 : (z = 0 ∧ 0 ≤ s ∧ s < b - 5 ∧ 0 ≤ r ∧ r < c ∧ 0 ≤ q ∧ q < a - 1) → (if z = 0 then numOf a b c s r q else 0) = (s * c + r) * (a - 1) + q + 1 := fun h => by
    unfold numOf
    rw [if_pos h.1, if_pos h.2]
  generalize (if z = 0 then numOf a b c s r q else 0) = R at hR0 hR1 ⊢
  have hzb : (z != 0) = decide (z ≠ 0) := by by_cases e : z = 0 <;> simp [e]
  have HG := Lib.hid hg
  have H0 := Lib.hid hR0
  have H1 := Lib.hid hR1
  clear hg hR0 hR1 hzz hz
  go_enter Try.func48, Try.ntmps48
  go_wp2_with fail
  have hG : ((w.alloc (.cells #[.int .i64 a, .int .i64 b, .int .i64 c, .int .i64 e] 49)).alloc (.cells #[.int .i64 s, .int .i64 r, .int .i64 q] 58)).heap[w.heap.size]? = some (.cells #[.int .i64 a, .int .i64 b, .int .i64 c, .int .i64 e] 49 (0, 0)) := heap_old _ (heap_is rfl)
  have hP : ((w.alloc (.cells #[.int .i64 a, .int .i64 b, .int .i64 c, .int .i64 e] 49)).alloc (.cells #[.int .i64 s, .int .i64 r, .int .i64 q] 58)).heap[w.heap.size + 1]? = some (.cells #[.int .i64 s, .int .i64 r, .int .i64 q] 58 (0, 0)) := heap_is (by simp)
  have hbel : Below w.heap.size w ((w.alloc (.cells #[.int .i64 a, .int .i64 b, .int .i64 c, .int .i64 e] 49)).alloc (.cells #[.int .i64 s, .int .i64 r, .int .i64 q] 58)) := ((Below.refl w.heap.size w).alloc (Nat.le_refl _) _).alloc (by simp) _
  generalize (w.alloc (.cells #[.int .i64 a, .int .i64 b, .int .i64 c, .int .i64 e] 49)).alloc (.cells #[.int .i64 s, .int .i64 r, .int .i64 q] 58) = w1 at hG hP hbel ⊢
  obtain ⟨bg, hbg⟩ : ∃ bg, bg = w.heap.size := ⟨_, rfl⟩
  have HB : Hid (∀ w', Below bg w w' → Below w.heap.size w w') := fun w' h => hbg ▸ h
  have hsz : bg ≤ w1.heap.size := hbg ▸ hbel.size
  rw [← hbg] at hG hP hbel ⊢
  obtain ⟨bp, hbp⟩ : ∃ bp, bp = bg + 1 := ⟨_, rfl⟩
  rw [← hbp] at hP ⊢
  clear hbg hbp
  have g0 : ∀ w', Below w1.heap.size w1 w' → w'.cell? ⟨bg, 0, none⟩ = some (.int .i64 a) := fun w' h => cells_at (heap_keep h hG) 0 _ rfl
  have g1 : ∀ w', Below w1.heap.size w1 w' → w'.cell? ⟨bg, 1, none⟩ = some (.int .i64 b) := fun w' h => cells_at (heap_keep h hG) 1 _ rfl
  have g2 : ∀ w', Below w1.heap.size w1 w' → w'.cell? ⟨bg, 2, none⟩ = some (.int .i64 c) := fun w' h => cells_at (heap_keep h hG) 2 _ rfl
  have g3 : ∀ w', Below w1.heap.size w1 w' → w'.cell? ⟨bg, 3, none⟩ = some (.int .i64 e) := fun w' h => cells_at (heap_keep h hG) 3 _ rfl
  have p0 : ∀ w', Below w1.heap.size w1 w' → w'.cell? ⟨bp, 0, none⟩ = some (.int .i64 s) := fun w' h => cells_at (heap_keep h hP) 0 _ rfl
  have p1 : ∀ w', Below w1.heap.size w1 w' → w'.cell? ⟨bp, 1, none⟩ = some (.int .i64 r) := fun w' h => cells_at (heap_keep h hP) 1 _ rfl
  have p2 : ∀ w', Below w1.heap.size w1 w' → w'.cell? ⟨bp, 2, none⟩ = some (.int .i64 q) := fun w' h => cells_at (heap_keep h hP) 2 _ rfl
  rcases hcases with h | h | h | h | h | h | h | h
  · obtain rfl := h
    have hR := H0.out (by omega)
    clear H0 H1 HG
    ((refine wp_region_mix [0, 1, 2, 3, 4, 5, 6, 7, 8, 9, 10, 11, 12, 13, 14, 15, 16, 17, 18, 19, 20, 21, 22, 23, 24, 25, 26, 27, 28, 29, 30, 31, 32, 33, 34, 35, 36, 37, 38] [(true, false), (false, false), (true, true), (true, true), (true, true), (true, false), (true, true), (true, true), (true, true), (true, true), (true, false), (true, false), (false, true), (true, true), (true, true), (true, true), (true, true), (true, false), (true, true), (true, true), (true, true), (true, true), (true, false), (true, true), (true, false), (true, true), (true, true), (true, true), (true, true), (true, false), (true, true), (true, true), (true, true), (true, true), (true, false), (true, false), (false, true), (true, true), (true, true)] [0, 1, 3, 7, 15, 31, 63, 127, 255, 511, 1023, 511, 2559, 8191, 16383, 32767, 65535, 131071, 262143, 524287, 1048575, 2097151, 4194303, 2097151, 10485759, 33554431, 67108863, 134217727, 268435455, 536870911, 1073741823, 2147483647, 4294967295, 8589934591, 17179869183, 8589934591, 42949672959, 137438953471, 274877906943] (fun w' => Below w1.heap.size w1 w') (by kernel_rfl) (by kernel_rfl) ?_ ?_; rotate_left; simp only [pickL, List.map_cons, List.map_nil, List.getD_cons_succ, List.getD_cons_zero]); rotate_left; (focus exact ⟨rfl, rfl, rfl, Nat.le_refl _, fun _ _ => rfl⟩); have hC : Below w1.heap.size w1 w1.drew := ⟨rfl, rfl, rfl, Nat.le_refl _, fun _ _ => rfl⟩)
    repeat (first | (refine mix_pure (fun hne K hK => ?_); go_simp; refine hK _ ?_; clear hK K hne) | (refine mix_load ?_ (fun K hK => ?_); (focus (first | rfl | (go_simp; done))); apply Exists.intro; apply And.intro; (focus (intro w' hC; go_simp; exact rfl)); go_simp; refine hK _ ?_; clear hK K) | (refine mix_skip ?_ (fun K hK => ?_); (focus (first | rfl | (go_simp; done))); go_simp; refine hK _ ?_; clear hK K))
    ((refine mix_one (by first | rfl | (go_simp; done)) (fun R hR hX => ?_)); go_wp2_with fail; refine (hchk _).mono ?_; rintro e wn ⟨rfl, hbn⟩; replace hC := below_step hC hbn rfl rfl rfl rfl hC.size; clear hbn; go_wp2_with fail; refine hR _ _ rfl ⟨_, hC, fun _ => rfl, ?_⟩; clear hR hX R)
    repeat (first | (refine mix_pure (fun hne K hK => ?_); go_simp; refine hK _ ?_; clear hK K hne) | (refine mix_load ?_ (fun K hK => ?_); (focus (first | rfl | (go_simp; done))); apply Exists.intro; apply And.intro; (focus (intro w' hC; go_simp; exact rfl)); go_simp; refine hK _ ?_; clear hK K) | (refine mix_skip ?_ (fun K hK => ?_); (focus (first | rfl | (go_simp; done))); go_simp; refine hK _ ?_; clear hK K))
    refine mix_done ?_
    go_wp2_with fail
    go_ret
    exact ⟨by rw [hR]; rfl, HB.out _ (hbel.trans (hC.mono hsz))⟩
  · obtain ⟨rfl, h⟩ := h
    obtain ⟨ha0, ha1, hb0, hb1, hc0, hc1⟩ := HG.out rfl
    have hR := H0.out (fun x => by omega)
    clear H0 H1 HG
    ((refine wp_region_mix [0, 1, 2, 3, 4, 5, 6, 7, 8, 9, 10, 11, 12, 13, 14, 15, 16, 17, 18, 19, 20, 21, 22, 23, 24, 25, 26, 27, 28, 29, 30, 31, 32, 33, 34, 35, 36, 37, 38] [(true, false), (false, false), (true, true), (true, true), (true, true), (true, false), (true, true), (true, true), (true, true), (true, true), (true, false), (true, false), (false, true), (true, true), (true, true), (true, true), (true, true), (true, false), (true, true), (true, true), (true, true), (true, true), (true, false), (true, true), (true, false), (true, true), (true, true), (true, true), (true, true), (true, false), (true, true), (true, true), (true, true), (true, true), (true, false), (true, false), (false, true), (true, true), (true, true)] [0, 1, 3, 7, 15, 31, 63, 127, 255, 511, 1023, 511, 2559, 8191, 16383, 32767, 65535, 131071, 262143, 524287, 1048575, 2097151, 4194303, 2097151, 10485759, 33554431, 67108863, 134217727, 268435455, 536870911, 1073741823, 2147483647, 4294967295, 8589934591, 17179869183, 8589934591, 42949672959, 137438953471, 274877906943] (fun w' => Below w1.heap.size w1 w') (by kernel_rfl) (by kernel_rfl) ?_ ?_; rotate_left; simp only [pickL, List.map_cons, List.map_nil, List.getD_cons_succ, List.getD_cons_zero]); rotate_left; (focus exact ⟨rfl, rfl, rfl, Nat.le_refl _, fun _ _ => rfl⟩); have hC : Below w1.heap.size w1 w1.drew := ⟨rfl, rfl, rfl, Nat.le_refl _, fun _ _ => rfl⟩)
    repeat (first | (refine mix_pure (fun hne K hK => ?_); go_simp; refine hK _ ?_; clear hK K hne) | (refine mix_load ?_ (fun K hK => ?_); (focus (first | rfl | (go_simp; done))); apply Exists.intro; apply And.intro; (focus (intro w' hC; go_simp; exact rfl)); go_simp; refine hK _ ?_; clear hK K) | (refine mix_skip ?_ (fun K hK => ?_); (focus (first | rfl | (go_simp; done))); go_simp; refine hK _ ?_; clear hK K))
    ((refine mix_one (by first | rfl | (go_simp; done)) (fun R hR hX => ?_)); go_wp2_with fail; refine (hchk _).mono ?_; rintro e wn ⟨rfl, hbn⟩; replace hC := below_step hC hbn rfl rfl rfl rfl hC.size; clear hbn; go_wp2_with fail; refine hR _ _ rfl ⟨_, hC, fun _ => rfl, ?_⟩; clear hR hX R)
    repeat (first | (refine mix_pure (fun hne K hK => ?_); go_simp; refine hK _ ?_; clear hK K hne) | (refine mix_load ?_ (fun K hK => ?_); (focus (first | rfl | (go_simp; done))); apply Exists.intro; apply And.intro; (focus (intro w' hC; go_simp; exact rfl)); go_simp; refine hK _ ?_; clear hK K) | (refine mix_skip ?_ (fun K hK => ?_); (focus (first | rfl | (go_simp; done))); go_simp; refine hK _ ?_; clear hK K))
    refine mix_done ?_
    go_wp2_with fail
    go_ret
    exact ⟨by rw [hR]; rfl, HB.out _ (hbel.trans (hC.mono hsz))⟩
  · obtain ⟨rfl, h⟩ := h
    obtain ⟨ha0, ha1, hb0, hb1, hc0, hc1⟩ := HG.out rfl
    have hR := H0.out (fun x => by omega)
    clear H0 H1 HG
    ((refine wp_region_mix [0, 1, 2, 3, 4, 5, 6, 7, 8, 9, 10, 11, 12, 13, 14, 15, 16, 17, 18, 19, 20, 21, 22, 23, 24, 25, 26, 27, 28, 29, 30, 31, 32, 33, 34, 35, 36, 37, 38] [(true, false), (false, false), (true, true), (true, true), (true, true), (true, false), (true, true), (true, true), (true, true), (true, true), (true, false), (true, false), (false, true), (true, true), (true, true), (true, true), (true, true), (true, false), (true, true), (true, true), (true, true), (true, true), (true, false), (true, true), (true, false), (true, true), (true, true), (true, true), (true, true), (true, false), (true, true), (true, true), (true, true), (true, true), (true, false), (true, false), (false, true), (true, true), (true, true)] [0, 1, 3, 7, 15, 31, 63, 127, 255, 511, 1023, 511, 2559, 8191, 16383, 32767, 65535, 131071, 262143, 524287, 1048575, 2097151, 4194303, 2097151, 10485759, 33554431, 67108863, 134217727, 268435455, 536870911, 1073741823, 2147483647, 4294967295, 8589934591, 17179869183, 8589934591, 42949672959, 137438953471, 274877906943] (fun w' => Below w1.heap.size w1 w') (by kernel_rfl) (by kernel_rfl) ?_ ?_; rotate_left; simp only [pickL, List.map_cons, List.map_nil, List.getD_cons_succ, List.getD_cons_zero]); rotate_left; (focus exact ⟨rfl, rfl, rfl, Nat.le_refl _, fun _ _ => rfl⟩); have hC : Below w1.heap.size w1 w1.drew := ⟨rfl, rfl, rfl, Nat.le_refl _, fun _ _ => rfl⟩)
    repeat (first | (refine mix_pure (fun hne K hK => ?_); go_simp; refine hK _ ?_; clear hK K hne) | (refine mix_load ?_ (fun K hK => ?_); (focus (first | rfl | (go_simp; done))); apply Exists.intro; apply And.intro; (focus (intro w' hC; go_simp; exact rfl)); go_simp; refine hK _ ?_; clear hK K) | (refine mix_skip ?_ (fun K hK => ?_); (focus (first | rfl | (go_simp; done))); go_simp; refine hK _ ?_; clear hK K))
    ((refine mix_one (by first | rfl | (go_simp; done)) (fun R hR hX => ?_)); go_wp2_with fail; refine (hchk _).mono ?_; rintro e wn ⟨rfl, hbn⟩; replace hC := below_step hC hbn rfl rfl rfl rfl hC.size; clear hbn; go_wp2_with fail; refine hR _ _ rfl ⟨_, hC, fun _ => rfl, ?_⟩; clear hR hX R)
    repeat (first | (refine mix_pure (fun hne K hK => ?_); go_simp; refine hK _ ?_; clear hK K hne) | (refine mix_load ?_ (fun K hK => ?_); (focus (first | rfl | (go_simp; done))); apply Exists.intro; apply And.intro; (focus (intro w' hC; go_simp; exact rfl)); go_simp; refine hK _ ?_; clear hK K) | (refine mix_skip ?_ (fun K hK => ?_); (focus (first | rfl | (go_simp; done))); go_simp; refine hK _ ?_; clear hK K))
    ((refine mix_one (by first | rfl | (go_simp; done)) (fun R hR hX => ?_)); go_wp2_with fail; refine (virt_calls a b c e _ ⟨hb0, hb1⟩).mono ?_; rintro e wn ⟨rfl, hbn⟩; replace hC := below_step hC hbn rfl rfl rfl rfl hC.size; clear hbn; go_wp2_with fail; refine hR _ _ rfl ⟨_, hC, fun _ => rfl, ?_⟩; clear hR hX R)
    repeat (first | (refine mix_pure (fun hne K hK => ?_); go_simp; refine hK _ ?_; clear hK K hne) | (refine mix_load ?_ (fun K hK => ?_); (focus (first | rfl | (go_simp; done))); apply Exists.intro; apply And.intro; (focus (intro w' hC; go_simp; exact rfl)); go_simp; refine hK _ ?_; clear hK K) | (refine mix_skip ?_ (fun K hK => ?_); (focus (first | rfl | (go_simp; done))); go_simp; refine hK _ ?_; clear hK K))
    refine mix_done ?_
    go_wp2_with fail
    go_ret
    exact ⟨by rw [hR]; rfl, HB.out _ (hbel.trans (hC.mono hsz))⟩
  · obtain ⟨rfl, h⟩ := h
    obtain ⟨ha0, ha1, hb0, hb1, hc0, hc1⟩ := HG.out rfl
    have hR := H0.out (fun x => by omega)
    clear H0 H1 HG
    ((refine wp_region_mix [0, 1, 2, 3, 4, 5, 6, 7, 8, 9, 10, 11, 12, 13, 14, 15, 16, 17, 18, 19, 20, 21, 22, 23, 24, 25, 26, 27, 28, 29, 30, 31, 32, 33, 34, 35, 36, 37, 38] [(true, false), (false, false), (true, true), (true, true), (true, true), (true, false), (true, true), (true, true), (true, true), (true, true), (true, false), (true, false), (false, true), (true, true), (true, true), (true, true), (true, true), (true, false), (true, true), (true, true), (true, true), (true, true), (true, false), (true, true), (true, false), (true, true), (true, true), (true, true), (true, true), (true, false), (true, true), (true, true), (true, true), (true, true), (true, false), (true, false), (false, true), (true, true), (true, true)] [0, 1, 3, 7, 15, 31, 63, 127, 255, 511, 1023, 511, 2559, 8191, 16383, 32767, 65535, 131071, 262143, 524287, 1048575, 2097151, 4194303, 2097151, 10485759, 33554431, 67108863, 134217727, 268435455, 536870911, 1073741823, 2147483647, 4294967295, 8589934591, 17179869183, 8589934591, 42949672959, 137438953471, 274877906943] (fun w' => Below w1.heap.size w1 w') (by kernel_rfl) (by kernel_rfl) ?_ ?_; rotate_left; simp only [pickL, List.map_cons, List.map_nil, List.getD_cons_succ, List.getD_cons_zero]); rotate_left; (focus exact ⟨rfl, rfl, rfl, Nat.le_refl _, fun _ _ => rfl⟩); have hC : Below w1.heap.size w1 w1.drew := ⟨rfl, rfl, rfl, Nat.le_refl _, fun _ _ => rfl⟩)
    repeat (first | (refine mix_pure (fun hne K hK => ?_); go_simp; refine hK _ ?_; clear hK K hne) | (refine mix_load ?_ (fun K hK => ?_); (focus (first | rfl | (go_simp; done))); apply Exists.intro; apply And.intro; (focus (intro w' hC; go_simp; exact rfl)); go_simp; refine hK _ ?_; clear hK K) | (refine mix_skip ?_ (fun K hK => ?_); (focus (first | rfl | (go_simp; done))); go_simp; refine hK _ ?_; clear hK K))
    ((refine mix_one (by first | rfl | (go_simp; done)) (fun R hR hX => ?_)); go_wp2_with fail; refine (hchk _).mono ?_; rintro e wn ⟨rfl, hbn⟩; replace hC := below_step hC hbn rfl rfl rfl rfl hC.size; clear hbn; go_wp2_with fail; refine hR _ _ rfl ⟨_, hC, fun _ => rfl, ?_⟩; clear hR hX R)
    repeat (first | (refine mix_pure (fun hne K hK => ?_); go_simp; refine hK _ ?_; clear hK K hne) | (refine mix_load ?_ (fun K hK => ?_); (focus (first | rfl | (go_simp; done))); apply Exists.intro; apply And.intro; (focus (intro w' hC; go_simp; exact rfl)); go_simp; refine hK _ ?_; clear hK K) | (refine mix_skip ?_ (fun K hK => ?_); (focus (first | rfl | (go_simp; done))); go_simp; refine hK _ ?_; clear hK K))
    ((refine mix_one (by first | rfl | (go_simp; done)) (fun R hR hX => ?_)); go_wp2_with fail; refine (virt_calls a b c e _ ⟨hb0, hb1⟩).mono ?_; rintro e wn ⟨rfl, hbn⟩; replace hC := below_step hC hbn rfl rfl rfl rfl hC.size; clear hbn; go_wp2_with fail; refine hR _ _ rfl ⟨_, hC, fun _ => rfl, ?_⟩; clear hR hX R)
    repeat (first | (refine mix_pure (fun hne K hK => ?_); go_simp; refine hK _ ?_; clear hK K hne) | (refine mix_load ?_ (fun K hK => ?_); (focus (first | rfl | (go_simp; done))); apply Exists.intro; apply And.intro; (focus (intro w' hC; go_simp; exact rfl)); go_simp; refine hK _ ?_; clear hK K) | (refine mix_skip ?_ (fun K hK => ?_); (focus (first | rfl | (go_simp; done))); go_simp; refine hK _ ?_; clear hK K))
    refine mix_done ?_
    go_wp2_with fail
    go_ret
    exact ⟨by rw [hR]; rfl, HB.out _ (hbel.trans (hC.mono hsz))⟩
  · obtain ⟨rfl, h⟩ := h
    obtain ⟨ha0, ha1, hb0, hb1, hc0, hc1⟩ := HG.out rfl
    have hR := H0.out (fun x => by omega)
    clear H0 H1 HG
    ((refine wp_region_mix [0, 1, 2, 3, 4, 5, 6, 7, 8, 9, 10, 11, 12, 13, 14, 15, 16, 17, 18, 19, 20, 21, 22, 23, 24, 25, 26, 27, 28, 29, 30, 31, 32, 33, 34, 35, 36, 37, 38] [(true, false), (false, false), (true, true), (true, true), (true, true), (true, false), (true, true), (true, true), (true, true), (true, true), (true, false), (true, false), (false, true), (true, true), (true, true), (true, true), (true, true), (true, false), (true, true), (true, true), (true, true), (true, true), (true, false), (true, true), (true, false), (true, true), (true, true), (true, true), (true, true), (true, false), (true, true), (true, true), (true, true), (true, true), (true, false), (true, false), (false, true), (true, true), (true, true)] [0, 1, 3, 7, 15, 31, 63, 127, 255, 511, 1023, 511, 2559, 8191, 16383, 32767, 65535, 131071, 262143, 524287, 1048575, 2097151, 4194303, 2097151, 10485759, 33554431, 67108863, 134217727, 268435455, 536870911, 1073741823, 2147483647, 4294967295, 8589934591, 17179869183, 8589934591, 42949672959, 137438953471, 274877906943] (fun w' => Below w1.heap.size w1 w') (by kernel_rfl) (by kernel_rfl) ?_ ?_; rotate_left; simp only [pickL, List.map_cons, List.map_nil, List.getD_cons_succ, List.getD_cons_zero]); rotate_left; (focus exact ⟨rfl, rfl, rfl, Nat.le_refl _, fun _ _ => rfl⟩); have hC : Below w1.heap.size w1 w1.drew := ⟨rfl, rfl, rfl, Nat.le_refl _, fun _ _ => rfl⟩)
    repeat (first | (refine mix_pure (fun hne K hK => ?_); go_simp; refine hK _ ?_; clear hK K hne) | (refine mix_load ?_ (fun K hK => ?_); (focus (first | rfl | (go_simp; done))); apply Exists.intro; apply And.intro; (focus (intro w' hC; go_simp; exact rfl)); go_simp; refine hK _ ?_; clear hK K) | (refine mix_skip ?_ (fun K hK => ?_); (focus (first | rfl | (go_simp; done))); go_simp; refine hK _ ?_; clear hK K))
    ((refine mix_one (by first | rfl | (go_simp; done)) (fun R hR hX => ?_)); go_wp2_with fail; refine (hchk _).mono ?_; rintro e wn ⟨rfl, hbn⟩; replace hC := below_step hC hbn rfl rfl rfl rfl hC.size; clear hbn; go_wp2_with fail; refine hR _ _ rfl ⟨_, hC, fun _ => rfl, ?_⟩; clear hR hX R)
    repeat (first | (refine mix_pure (fun hne K hK => ?_); go_simp; refine hK _ ?_; clear hK K hne) | (refine mix_load ?_ (fun K hK => ?_); (focus (first | rfl | (go_simp; done))); apply Exists.intro; apply And.intro; (focus (intro w' hC; go_simp; exact rfl)); go_simp; refine hK _ ?_; clear hK K) | (refine mix_skip ?_ (fun K hK => ?_); (focus (first | rfl | (go_simp; done))); go_simp; refine hK _ ?_; clear hK K))
    ((refine mix_one (by first | rfl | (go_simp; done)) (fun R hR hX => ?_)); go_wp2_with fail; refine (virt_calls a b c e _ ⟨hb0, hb1⟩).mono ?_; rintro e wn ⟨rfl, hbn⟩; replace hC := below_step hC hbn rfl rfl rfl rfl hC.size; clear hbn; go_wp2_with fail; refine hR _ _ rfl ⟨_, hC, fun _ => rfl, ?_⟩; clear hR hX R)
    repeat (first | (refine mix_pure (fun hne K hK => ?_); go_simp; refine hK _ ?_; clear hK K hne) | (refine mix_load ?_ (fun K hK => ?_); (focus (first | rfl | (go_simp; done))); apply Exists.intro; apply And.intro; (focus (intro w' hC; go_simp; exact rfl)); go_simp; refine hK _ ?_; clear hK K) | (refine mix_skip ?_ (fun K hK => ?_); (focus (first | rfl | (go_simp; done))); go_simp; refine hK _ ?_; clear hK K))
    refine mix_done ?_
    go_wp2_with fail
    go_ret
    exact ⟨by rw [hR]; rfl, HB.out _ (hbel.trans (hC.mono hsz))⟩
  · obtain ⟨rfl, h⟩ := h
    obtain ⟨ha0, ha1, hb0, hb1, hc0, hc1⟩ := HG.out rfl
    have hR := H0.out (fun x => by omega)
    clear H0 H1 HG
    ((refine wp_region_mix [0, 1, 2, 3, 4, 5, 6, 7, 8, 9, 10, 11, 12, 13, 14, 15, 16, 17, 18, 19, 20, 21, 22, 23, 24, 25, 26, 27, 28, 29, 30, 31, 32, 33, 34, 35, 36, 37, 38] [(true, false), (false, false), (true, true), (true, true), (true, true), (true, false), (true, true), (true, true), (true, true), (true, true), (true, false), (true, false), (false, true), (true, true), (true, true), (true, true), (true, true), (true, false), (true, true), (true, true), (true, true), (true, true), (true, false), (true, true), (true, false), (true, true), (true, true), (true, true), (true, true), (true, false), (true, true), (true, true), (true, true), (true, true), (true, false), (true, false), (false, true), (true, true), (true, true)] [0, 1, 3, 7, 15, 31, 63, 127, 255, 511, 1023, 511, 2559, 8191, 16383, 32767, 65535, 131071, 262143, 524287, 1048575, 2097151, 4194303, 2097151, 10485759, 33554431, 67108863, 134217727, 268435455, 536870911, 1073741823, 2147483647, 4294967295, 8589934591, 17179869183, 8589934591, 42949672959, 137438953471, 274877906943] (fun w' => Below w1.heap.size w1 w') (by kernel_rfl) (by kernel_rfl) ?_ ?_; rotate_left; simp only [pickL, List.map_cons, List.map_nil, List.getD_cons_succ, List.getD_cons_zero]); rotate_left; (focus exact ⟨rfl, rfl, rfl, Nat.le_refl _, fun _ _ => rfl⟩); have hC : Below w1.heap.size w1 w1.drew := ⟨rfl, rfl, rfl, Nat.le_refl _, fun _ _ => rfl⟩)
    repeat (first | (refine mix_pure (fun hne K hK => ?_); go_simp; refine hK _ ?_; clear hK K hne) | (refine mix_load ?_ (fun K hK => ?_); (focus (first | rfl | (go_simp; done))); apply Exists.intro; apply And.intro; (focus (intro w' hC; go_simp; exact rfl)); go_simp; refine hK _ ?_; clear hK K) | (refine mix_skip ?_ (fun K hK => ?_); (focus (first | rfl | (go_simp; done))); go_simp; refine hK _ ?_; clear hK K))
    ((refine mix_one (by first | rfl | (go_simp; done)) (fun R hR hX => ?_)); go_wp2_with fail; refine (hchk _).mono ?_; rintro e wn ⟨rfl, hbn⟩; replace hC := below_step hC hbn rfl rfl rfl rfl hC.size; clear hbn; go_wp2_with fail; refine hR _ _ rfl ⟨_, hC, fun _ => rfl, ?_⟩; clear hR hX R)
    repeat (first | (refine mix_pure (fun hne K hK => ?_); go_simp; refine hK _ ?_; clear hK K hne) | (refine mix_load ?_ (fun K hK => ?_); (focus (first | rfl | (go_simp; done))); apply Exists.intro; apply And.intro; (focus (intro w' hC; go_simp; exact rfl)); go_simp; refine hK _ ?_; clear hK K) | (refine mix_skip ?_ (fun K hK => ?_); (focus (first | rfl | (go_simp; done))); go_simp; refine hK _ ?_; clear hK K))
    ((refine mix_one (by first | rfl | (go_simp; done)) (fun R hR hX => ?_)); go_wp2_with fail; refine (virt_calls a b c e _ ⟨hb0, hb1⟩).mono ?_; rintro e wn ⟨rfl, hbn⟩; replace hC := below_step hC hbn rfl rfl rfl rfl hC.size; clear hbn; go_wp2_with fail; refine hR _ _ rfl ⟨_, hC, fun _ => rfl, ?_⟩; clear hR hX R)
    repeat (first | (refine mix_pure (fun hne K hK => ?_); go_simp; refine hK _ ?_; clear hK K hne) | (refine mix_load ?_ (fun K hK => ?_); (focus (first | rfl | (go_simp; done))); apply Exists.intro; apply And.intro; (focus (intro w' hC; go_simp; exact rfl)); go_simp; refine hK _ ?_; clear hK K) | (refine mix_skip ?_ (fun K hK => ?_); (focus (first | rfl | (go_simp; done))); go_simp; refine hK _ ?_; clear hK K))
    refine mix_done ?_
    go_wp2_with fail
    go_ret
    exact ⟨by rw [hR]; rfl, HB.out _ (hbel.trans (hC.mono hsz))⟩
  · obtain ⟨rfl, h⟩ := h
    obtain ⟨ha0, ha1, hb0, hb1, hc0, hc1⟩ := HG.out rfl
    have hR := H0.out (fun x => by omega)
    clear H0 H1 HG
    ((refine wp_region_mix [0, 1, 2, 3, 4, 5, 6, 7, 8, 9, 10, 11, 12, 13, 14, 15, 16, 17, 18, 19, 20, 21, 22, 23, 24, 25, 26, 27, 28, 29, 30, 31, 32, 33, 34, 35, 36, 37, 38] [(true, false), (false, false), (true, true), (true, true), (true, true), (true, false), (true, true), (true, true), (true, true), (true, true), (true, false), (true, false), (false, true), (true, true), (true, true), (true, true), (true, true), (true, false), (true, true), (true, true), (true, true), (true, true), (true, false), (true, true), (true, false), (true, true), (true, true), (true, true), (true, true), (true, false), (true, true), (true, true), (true, true), (true, true), (true, false), (true, false), (false, true), (true, true), (true, true)] [0, 1, 3, 7, 15, 31, 63, 127, 255, 511, 1023, 511, 2559, 8191, 16383, 32767, 65535, 131071, 262143, 524287, 1048575, 2097151, 4194303, 2097151, 10485759, 33554431, 67108863, 134217727, 268435455, 536870911, 1073741823, 2147483647, 4294967295, 8589934591, 17179869183, 8589934591, 42949672959, 137438953471, 274877906943] (fun w' => Below w1.heap.size w1 w') (by kernel_rfl) (by kernel_rfl) ?_ ?_; rotate_left; simp only [pickL, List.map_cons, List.map_nil, List.getD_cons_succ, List.getD_cons_zero]); rotate_left; (focus exact ⟨rfl, rfl, rfl, Nat.le_refl _, fun _ _ => rfl⟩); have hC : Below w1.heap.size w1 w1.drew := ⟨rfl, rfl, rfl, Nat.le_refl _, fun _ _ => rfl⟩)
    repeat (first | (refine mix_pure (fun hne K hK => ?_); go_simp; refine hK _ ?_; clear hK K hne) | (refine mix_load ?_ (fun K hK => ?_); (focus (first | rfl | (go_simp; done))); apply Exists.intro; apply And.intro; (focus (intro w' hC; go_simp; exact rfl)); go_simp; refine hK _ ?_; clear hK K) | (refine mix_skip ?_ (fun K hK => ?_); (focus (first | rfl | (go_simp; done))); go_simp; refine hK _ ?_; clear hK K))
    ((refine mix_one (by first | rfl | (go_simp; done)) (fun R hR hX => ?_)); go_wp2_with fail; refine (hchk _).mono ?_; rintro e wn ⟨rfl, hbn⟩; replace hC := below_step hC hbn rfl rfl rfl rfl hC.size; clear hbn; go_wp2_with fail; refine hR _ _ rfl ⟨_, hC, fun _ => rfl, ?_⟩; clear hR hX R)
    repeat (first | (refine mix_pure (fun hne K hK => ?_); go_simp; refine hK _ ?_; clear hK K hne) | (refine mix_load ?_ (fun K hK => ?_); (focus (first | rfl | (go_simp; done))); apply Exists.intro; apply And.intro; (focus (intro w' hC; go_simp; exact rfl)); go_simp; refine hK _ ?_; clear hK K) | (refine mix_skip ?_ (fun K hK => ?_); (focus (first | rfl | (go_simp; done))); go_simp; refine hK _ ?_; clear hK K))
    ((refine mix_one (by first | rfl | (go_simp; done)) (fun R hR hX => ?_)); go_wp2_with fail; refine (virt_calls a b c e _ ⟨hb0, hb1⟩).mono ?_; rintro e wn ⟨rfl, hbn⟩; replace hC := below_step hC hbn rfl rfl rfl rfl hC.size; clear hbn; go_wp2_with fail; refine hR _ _ rfl ⟨_, hC, fun _ => rfl, ?_⟩; clear hR hX R)
    repeat (first | (refine mix_pure (fun hne K hK => ?_); go_simp; refine hK _ ?_; clear hK K hne) | (refine mix_load ?_ (fun K hK => ?_); (focus (first | rfl | (go_simp; done))); apply Exists.intro; apply And.intro; (focus (intro w' hC; go_simp; exact rfl)); go_simp; refine hK _ ?_; clear hK K) | (refine mix_skip ?_ (fun K hK => ?_); (focus (first | rfl | (go_simp; done))); go_simp; refine hK _ ?_; clear hK K))
    ((refine mix_one (by first | rfl | (go_simp; done)) (fun R hR hX => ?_)); go_wp2_with fail; refine (width_any a b c e _ ⟨ha0, ha1⟩).mono ?_; rintro e wn ⟨rfl, hbn⟩; replace hC := below_step hC hbn rfl rfl rfl rfl hC.size; clear hbn; go_wp2_with fail; refine hR _ _ rfl ⟨_, hC, fun _ => rfl, ?_⟩; clear hR hX R)
    repeat (first | (refine mix_pure (fun hne K hK => ?_); go_simp; refine hK _ ?_; clear hK K hne) | (refine mix_load ?_ (fun K hK => ?_); (focus (first | rfl | (go_simp; done))); apply Exists.intro; apply And.intro; (focus (intro w' hC; go_simp; exact rfl)); go_simp; refine hK _ ?_; clear hK K) | (refine mix_skip ?_ (fun K hK => ?_); (focus (first | rfl | (go_simp; done))); go_simp; refine hK _ ?_; clear hK K))
    refine mix_done ?_
    go_wp2_with fail
    go_ret
    exact ⟨by rw [hR]; rfl, HB.out _ (hbel.trans (hC.mono hsz))⟩
  · obtain ⟨rfl, h⟩ := h
    obtain ⟨ha0, ha1, hb0, hb1, hc0, hc1⟩ := HG.out rfl
    have hR := H1.out ⟨rfl, h⟩
    clear H0 H1 HG
    obtain ⟨h1, h2, h3, h4, h5, h6⟩ := h
    have m0 : 0 ≤ s * c := Int.mul_nonneg h1 (by omega)
    have m1 : s * c ≤ 59 * 32 := Int.mul_le_mul (by omega) (by omega) (by omega) (by omega)
    have m2 : 0 ≤ (s * c + r) * (a - 1) := Int.mul_nonneg (by omega) (by omega)
    have m3 : (s * c + r) * (a - 1) ≤ 2000 * 15 := Int.mul_le_mul (by omega) (by omega) (by omega) (by omega)
    have HR := Lib.hid hR
    clear hR
    ((refine wp_region_mix [0, 1, 2, 3, 4, 5, 6, 7, 8, 9, 10, 11, 12, 13, 14, 15, 16, 17, 18, 19, 20, 21, 22, 23, 24, 25, 26, 27, 28, 29, 30, 31, 32, 33, 34, 35, 36, 37, 38] [(true, false), (false, false), (true, true), (true, true), (true, true), (true, false), (true, true), (true, true), (true, true), (true, true), (true, false), (true, false), (false, true), (true, true), (true, true), (true, true), (true, true), (true, false), (true, true), (true, true), (true, true), (true, true), (true, false), (true, true), (true, false), (true, true), (true, true), (true, true), (true, true), (true, false), (true, true), (true, true), (true, true), (true, true), (true, false), (true, false), (false, true), (true, true), (true, true)] [0, 1, 3, 7, 15, 31, 63, 127, 255, 511, 1023, 511, 2559, 8191, 16383, 32767, 65535, 131071, 262143, 524287, 1048575, 2097151, 4194303, 2097151, 10485759, 33554431, 67108863, 134217727, 268435455, 536870911, 1073741823, 2147483647, 4294967295, 8589934591, 17179869183, 8589934591, 42949672959, 137438953471, 274877906943] (fun w' => Below w1.heap.size w1 w') (by kernel_rfl) (by kernel_rfl) ?_ ?_; rotate_left; simp only [pickL, List.map_cons, List.map_nil, List.getD_cons_succ, List.getD_cons_zero]); rotate_left; (focus exact ⟨rfl, rfl, rfl, Nat.le_refl _, fun _ _ => rfl⟩); have hC : Below w1.heap.size w1 w1.drew := ⟨rfl, rfl, rfl, Nat.le_refl _, fun _ _ => rfl⟩)
    repeat (first | (refine mix_pure (fun hne K hK => ?_); go_simp; refine hK _ ?_; clear hK K hne) | (refine mix_load ?_ (fun K hK => ?_); (focus (first | rfl | (go_simp; done))); apply Exists.intro; apply And.intro; (focus (intro w' hC; go_simp; exact rfl)); go_simp; refine hK _ ?_; clear hK K) | (refine mix_skip ?_ (fun K hK => ?_); (focus (first | rfl | (go_simp; done))); go_simp; refine hK _ ?_; clear hK K))
    ((refine mix_one (by first | rfl | (go_simp; done)) (fun R hR hX => ?_)); go_wp2_with fail; refine (hchk _).mono ?_; rintro e wn ⟨rfl, hbn⟩; replace hC := below_step hC hbn rfl rfl rfl rfl hC.size; clear hbn; go_wp2_with fail; refine hR _ _ rfl ⟨_, hC, fun _ => rfl, ?_⟩; clear hR hX R)
    repeat (first | (refine mix_pure (fun hne K hK => ?_); go_simp; refine hK _ ?_; clear hK K hne) | (refine mix_load ?_ (fun K hK => ?_); (focus (first | rfl | (go_simp; done))); apply Exists.intro; apply And.intro; (focus (intro w' hC; go_simp; exact rfl)); go_simp; refine hK _ ?_; clear hK K) | (refine mix_skip ?_ (fun K hK => ?_); (focus (first | rfl | (go_simp; done))); go_simp; refine hK _ ?_; clear hK K))
    ((refine mix_one (by first | rfl | (go_simp; done)) (fun R hR hX => ?_)); go_wp2_with fail; refine (virt_calls a b c e _ ⟨hb0, hb1⟩).mono ?_; rintro e wn ⟨rfl, hbn⟩; replace hC := below_step hC hbn rfl rfl rfl rfl hC.size; clear hbn; go_wp2_with fail; refine hR _ _ rfl ⟨_, hC, fun _ => rfl, ?_⟩; clear hR hX R)
    repeat (first | (refine mix_pure (fun hne K hK => ?_); go_simp; refine hK _ ?_; clear hK K hne) | (refine mix_load ?_ (fun K hK => ?_); (focus (first | rfl | (go_simp; done))); apply Exists.intro; apply And.intro; (focus (intro w' hC; go_simp; exact rfl)); go_simp; refine hK _ ?_; clear hK K) | (refine mix_skip ?_ (fun K hK => ?_); (focus (first | rfl | (go_simp; done))); go_simp; refine hK _ ?_; clear hK K))
    ((refine mix_one (by first | rfl | (go_simp; done)) (fun R hR hX => ?_)); go_wp2_with fail; refine (width_any a b c e _ ⟨ha0, ha1⟩).mono ?_; rintro e wn ⟨rfl, hbn⟩; replace hC := below_step hC hbn rfl rfl rfl rfl hC.size; clear hbn; go_wp2_with fail; refine hR _ _ rfl ⟨_, hC, fun _ => rfl, ?_⟩; clear hR hX R)
    repeat (first | (refine mix_pure (fun hne K hK => ?_); go_simp; refine hK _ ?_; clear hK K hne) | (refine mix_load ?_ (fun K hK => ?_); (focus (first | rfl | (go_simp; done))); apply Exists.intro; apply And.intro; (focus (intro w' hC; go_simp; exact rfl)); go_simp; refine hK _ ?_; clear hK K) | (refine mix_skip ?_ (fun K hK => ?_); (focus (first | rfl | (go_simp; done))); go_simp; refine hK _ ?_; clear hK K))
    refine mix_done ?_
    clear g0 g1 g2 g3 p0 p1 p2
    have hG2 := heap_keep hC hG
    have hP2 := heap_keep hC hP
    replace hbel := hbel.trans (hC.mono hsz)
    replace hsz := Nat.le_trans hsz hC.size
    clear hC hG hP
    have g0 : ∀ w', Below wn.heap.size wn w' → w'.cell? ⟨bg, 0, none⟩ = some (.int .i64 a) := fun w' h => cells_at (heap_keep h hG2) 0 _ rfl
    have g1 : ∀ w', Below wn.heap.size wn w' → w'.cell? ⟨bg, 1, none⟩ = some (.int .i64 b) := fun w' h => cells_at (heap_keep h hG2) 1 _ rfl
    have g2 : ∀ w', Below wn.heap.size wn w' → w'.cell? ⟨bg, 2, none⟩ = some (.int .i64 c) := fun w' h => cells_at (heap_keep h hG2) 2 _ rfl
    have g3 : ∀ w', Below wn.heap.size wn w' → w'.cell? ⟨bg, 3, none⟩ = some (.int .i64 e) := fun w' h => cells_at (heap_keep h hG2) 3 _ rfl
    have p0 : ∀ w', Below wn.heap.size wn w' → w'.cell? ⟨bp, 0, none⟩ = some (.int .i64 s) := fun w' h => cells_at (heap_keep h hP2) 0 _ rfl
    have p1 : ∀ w', Below wn.heap.size wn w' → w'.cell? ⟨bp, 1, none⟩ = some (.int .i64 r) := fun w' h => cells_at (heap_keep h hP2) 1 _ rfl
    have p2 : ∀ w', Below wn.heap.size wn w' → w'.cell? ⟨bp, 2, none⟩ = some (.int .i64 q) := fun w' h => cells_at (heap_keep h hP2) 2 _ rfl
    go_wp2_with fail
    ((refine wp_region_mix [0, 1, 2, 3, 4, 5, 6, 7, 8, 11, 12, 9, 10, 13, 14, 15, 16] [(true, true), (true, false), (true, true), (true, false), (true, true), (true, true), (true, false), (true, true), (true, false), (true, true), (true, false), (false, true), (true, true), (true, true), (true, true), (true, true), (true, true)] [0, 1, 0, 4, 15, 0, 32, 127, 0, 256, 1023, 0, 2048, 8191, 16383, 32767, 65535] (fun w' => Below wn.heap.size wn w') (by kernel_rfl) (by kernel_rfl) ?_ ?_; rotate_left; simp only [pickL, List.map_cons, List.map_nil, List.getD_cons_succ, List.getD_cons_zero]); rotate_left; (focus exact ⟨rfl, rfl, rfl, Nat.le_refl _, fun _ _ => rfl⟩); have hC : Below wn.heap.size wn wn.drew := ⟨rfl, rfl, rfl, Nat.le_refl _, fun _ _ => rfl⟩)
    repeat (first | (refine mix_pure (fun hne K hK => ?_); go_simp; refine hK _ ?_; clear hK K hne) | (refine mix_load ?_ (fun K hK => ?_); (focus (first | rfl | (go_simp; done))); apply Exists.intro; apply And.intro; (focus (intro w' hC; go_simp; exact rfl)); go_simp; refine hK _ ?_; clear hK K) | (refine mix_skip ?_ (fun K hK => ?_); (focus (first | rfl | (go_simp; done))); go_simp; refine hK _ ?_; clear hK K))
    ((refine mix_one (by first | rfl | (go_simp; done)) (fun R hR hX => ?_)); go_wp2_with fail; refine (width_any a b c e _ ⟨ha0, ha1⟩).mono ?_; rintro e wn ⟨rfl, hbn⟩; replace hC := below_step hC hbn rfl rfl rfl rfl hC.size; clear hbn; go_wp2_with fail; refine hR _ _ rfl ⟨_, hC, fun _ => rfl, ?_⟩; clear hR hX R)
    repeat (first | (refine mix_pure (fun hne K hK => ?_); go_simp; refine hK _ ?_; clear hK K hne) | (refine mix_load ?_ (fun K hK => ?_); (focus (first | rfl | (go_simp; done))); apply Exists.intro; apply And.intro; (focus (intro w' hC; go_simp; exact rfl)); go_simp; refine hK _ ?_; clear hK K) | (refine mix_skip ?_ (fun K hK => ?_); (focus (first | rfl | (go_simp; done))); go_simp; refine hK _ ?_; clear hK K))
    refine mix_done ?_
    go_wp2_with fail
    go_ret
    have hval : IntKind.u32.wrap (IntKind.u32.wrap (IntKind.i64.wrap (IntKind.i64.wrap (IntKind.i64.wrap (IntKind.i64.wrap (s * c) + r) * (a - 1)) + q)) + 1) = (s * c + r) * (a - 1) + q + 1 := by
      rw [IntWalk.i64_in (s * c) (by omega), IntWalk.i64_in (s * c + r) (by omega), IntWalk.i64_in ((s * c + r) * (a - 1)) (by omega), IntWalk.i64_in _ (by omega), IntWalk.u32_in ((s * c + r) * (a - 1) + q) (by omega), IntWalk.u32_in _ (by omega)]
    exact ⟨by rw [HR.out, ← hval]; rfl, HB.out _ (hbel.trans (hC.mono hsz))⟩

set_option maxHeartbeats 4000000 in
theorem refnumber_calls (a b c e s r q : Int) (w : World) (ha : 3 ≤ a ∧ a ≤ 16) (hb : 16 ≤ b ∧ b ≤ 64) (hc : 4 ≤ c ∧ c ≤ 32) :
    Calls Try.prog 49 #[gV a b c e, .int .i64 s, .int .i64 r, .int .i64 q] w fun x w' => x = .returned (.int .i64 (numOf a b c s r q)) ∧ Below w.heap.size w w' := by
  unfold numOf
  by_cases h : 0 ≤ s ∧ s < b - 5 ∧ 0 ≤ r ∧ r < c ∧ 0 ≤ q ∧ q < a - 1
  · rw [if_pos h]
    obtain ⟨h1, h2, h3, h4, h5, h6⟩ := h
    have m0 : 0 ≤ s * c := Int.mul_nonneg h1 (by omega)
    have m1 : s * c ≤ 59 * 32 := Int.mul_le_mul (by omega) (by omega) (by omega) (by omega)
    have n0 : 0 ≤ (s * c) * (a - 1) := Int.mul_nonneg m0 (by omega)
    have n1 : (s * c) * (a - 1) ≤ 59 * 32 * 15 := Int.mul_le_mul m1 (by omega) (by omega) (by omega)
    have k0 : 0 ≤ r * (a - 1) := Int.mul_nonneg h3 (by omega)
    have k1 : r * (a - 1) ≤ 32 * 15 := Int.mul_le_mul (by omega) (by omega) (by omega) (by omega)
    have e2 : (s * c + r) * (a - 1) + q + 1 = s * c * (a - 1) + r * (a - 1) + q + 1 := by rw [Int.add_mul]
    rw [e2]
    clear e2
    go_enter Try.func49, Try.ntmps49
    go_wp2
    go_ret
    exact ⟨rfl, by go_grown⟩
  · rw [if_neg h]
    have hd : s < 0 ∨ (0 ≤ s ∧ b - 5 ≤ s) ∨ (0 ≤ s ∧ s < b - 5 ∧ r < 0) ∨ (0 ≤ s ∧ s < b - 5 ∧ 0 ≤ r ∧ c ≤ r) ∨ (0 ≤ s ∧ s < b - 5 ∧ 0 ≤ r ∧ r < c ∧ q < 0) ∨ (0 ≤ s ∧ s < b - 5 ∧ 0 ≤ r ∧ r < c ∧ 0 ≤ q ∧ a - 1 ≤ q) := by
      by_cases d1 : s < 0
      · exact .inl d1
      by_cases d2 : b - 5 ≤ s
      · exact .inr (.inl ⟨by omega, d2⟩)
      by_cases d3 : r < 0
      · exact .inr (.inr (.inl ⟨by omega, by omega, d3⟩))
      by_cases d4 : c ≤ r
      · exact .inr (.inr (.inr (.inl ⟨by omega, by omega, by omega, d4⟩)))
      by_cases d5 : q < 0
      · exact .inr (.inr (.inr (.inr (.inl ⟨by omega, by omega, by omega, by omega, d5⟩))))
      by_cases d6 : a - 1 ≤ q
      · exact .inr (.inr (.inr (.inr (.inr ⟨by omega, by omega, by omega, by omega, by omega, d6⟩))))
      · exact absurd ⟨by omega, by omega, by omega, by omega, by omega, by omega⟩ h
    clear h
    rcases hd with h | ⟨h1, h2⟩ | ⟨h1, h2, h3⟩ | ⟨h1, h2, h3, h4⟩ | ⟨h1, h2, h3, h4, h5⟩ | ⟨h1, h2, h3, h4, h5, h6⟩
    all_goals
      go_enter Try.func49, Try.ntmps49
      go_wp2
      go_ret
      exact ⟨rfl, by go_grown⟩
end Go.Proofs.Ytoalihddfgehjaa.NumberW
