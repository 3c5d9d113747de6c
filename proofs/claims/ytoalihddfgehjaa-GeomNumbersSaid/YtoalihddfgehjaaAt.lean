/- geom.At: the walk. -/
--only r1
import Derived.Test.YtoalihddfgehjaaPGeomStripesx
import Derived.Test.YtoalihddfgehjaaMix
import Derived.Test.YtoalihddfgehjaaOnly
import Derived.RegionTactic
import Derived.BigRegion
import Derived.Handy
import Derived.Laws.OwnMore
namespace Go.Proofs.Ytoalihddfgehjaa.AtW
set_option linter.unusedVariables false
set_option linter.unusedSimpArgs false
open Go.RowKit Go.Proofs.Ytoalihddfgehjaa.PGeomStripes

abbrev gV (a b c d : Int) : Value := .agg #[.int .i64 a, .int .i64 b, .int .i64 c, .int .i64 d]
theorem geo_ok {a b c d : Int} (h : api_Geo_Check.f a b c d = some 0) : 3 ≤ a ∧ a ≤ 16 ∧ 16 ≤ b ∧ b ≤ 64 ∧ 4 ≤ c ∧ c ≤ 32 := by
  unfold api_Geo_Check.f at h
  repeat' split at h
  all_goals first | (simp at h; done) | omega
theorem geo_two (a b c d : Int) : api_Geo_Check.f a b c d = some 0 ∨ api_Geo_Check.f a b c d = some 34 := by
  unfold api_Geo_Check.f
  repeat' split
  all_goals first | exact .inl rfl | exact .inr rfl
theorem width_calls (V : Nat) (b c e : Int) (w : World) (h : 2 ≤ V ∧ V ≤ 15) :
    Calls Try.prog 41 #[gV ((V : Int) + 1) b c e] w fun r w' => r = .returned (.int .i64 (V : Int)) ∧ Below w.heap.size w w' := by
  refine geom_Width.calls _ b c e (V : Int) w ?_
  have h1 : wrap64 ((V : Int) + 1 - 1) = (V : Int) := by unfold wrap64; omega
  unfold geom_Width.f
  rw [h1]
  unfold YtoalihddfgehjaaW.PrintWords.mx
  rw [if_pos (by omega)]
theorem virt_calls (a b c e : Int) (w : World) (h : 16 ≤ b ∧ b ≤ 64) :
    Calls Try.prog 50 #[gV a b c e] w fun r w' => r = .returned (.int .i64 (b - 5)) ∧ Below w.heap.size w w' := by
  refine api_Geo_Virtual.calls a b c e (b - 5) w ?_
  unfold api_Geo_Virtual.f
  have : wrap64 (wrap64 (b - 2) - 3) = b - 5 := by unfold wrap64; omega
  rw [this]

theorem below_put {B : Nat} {w w1 : World} (hb : Below B w w1) (b j : Nat) (u : Value) (hB : B ≤ b) : Below B w (w1.setCell ⟨b, j, none⟩ u) :=
  ⟨hb.os, hb.tape, hb.output, by simpa using hb.size, fun k hk => by rw [Below.heap_setCell _ _ _ _ (by show k ≠ b; omega)]; exact hb.block k hk⟩
theorem set3 {w : World} {b t : Nat} {x y z u0 u1 u2 : Value} (h : w.heap[b]? = some (.cells #[x, y, z] t (0, 0))) :
    (((w.setCell ⟨b, 0, none⟩ u0).setCell ⟨b, 1, none⟩ u1).setCell ⟨b, 2, none⟩ u2).heap[b]? = some (.cells #[u0, u1, u2] t (0, 0)) := by
  have h1 := heap_setCell_same w b 0 _ t u0 h
  have h2 := heap_setCell_same _ b 1 _ t u1 h1
  have h3 := heap_setCell_same _ b 2 _ t u2 h2
  rw [h3]; rfl

set_option maxHeartbeats 4000000 in
theorem at_no (a b c e n : Int) (w : World) (h : api_Geo_Check.f a b c e = some 34 ∨ (api_Geo_Check.f a b c e = some 0 ∧ n = 0)) :
    Calls Try.prog 35 #[gV a b c e, .int .u32 n] w fun r w' => r = .returned (.tuple #[.agg #[.int .i64 0, .int .i64 0, .int .i64 0], .bool false]) ∧ Below w.heap.size w w' := by
  obtain ⟨z, hz, hzn⟩ : ∃ z, api_Geo_Check.f a b c e = some z ∧ (z = 34 ∨ (z = 0 ∧ n = 0)) := by
    rcases h with h | ⟨h, h2⟩
    · exact ⟨34, h, .inl rfl⟩
    · exact ⟨0, h, .inr ⟨rfl, h2⟩⟩
  go_enter Try.func35, Try.ntmps35
  go_wp2_with fail
  refine (api_Geo_Check.calls a b c e z _ hz).mono ?_
  rintro e1 w1 ⟨rfl, hb1⟩
  have hP : w1.heap[w.heap.size + 1]? = some (.cells #[.int .i64 0, .int .i64 0, .int .i64 0] 58 (0, 0)) := heap_keep hb1 (heap_is (by simp))
  have hbel : Below w.heap.size w w1 := (((Below.refl w.heap.size w).alloc (Nat.le_refl _) _).alloc (by simp) _).trans (hb1.mono (by simp; omega))
  clear hb1 hz h
  have p0 := cells_at hP 0 _ rfl
  have p1 := cells_at hP 1 _ rfl
  have p2 := cells_at hP 2 _ rfl
  have f0 := froz_at hP 0
  have f1 := froz_at hP 1
  have f2 := froz_at hP 2
  rcases hzn with rfl | ⟨rfl, rfl⟩
  all_goals
    go_wp2_with fail
    refine bodyPost_ret (YtoalihddfgehjaaW.PrintWords.results_ct rfl _ _ (w.heap.size + 1) _ _ _ _ rfl (set3 hP) Try.underlying58 rfl (by kernel_rfl)) rfl ?_
    exact ⟨rfl, below_put (below_put (below_put hbel _ _ _ (by omega)) _ _ _ (by omega)) _ _ _ (by omega)⟩

/-- the class of worlds in which two blocks hold what they hold -/
def Two (b1 b2 : Nat) (A B : Obj) (w : World) : Prop := w.heap[b1]? = some A ∧ w.heap[b2]? = some B
theorem Two.keep {b1 b2 : Nat} {A B : Obj} {w w' : World} (h : Two b1 b2 A B w) (hb : Below w.heap.size w w') : Two b1 b2 A B w' := ⟨heap_keep hb h.1, heap_keep hb h.2⟩
theorem Two.put {b1 b2 : Nat} {A B : Obj} {w : World} (h : Two b1 b2 A B w) (b j : Nat) (u : Value) (h1 : b1 ≠ b) (h2 : b2 ≠ b) : Two b1 b2 A B (w.setCell ⟨b, j, none⟩ u) :=
  ⟨by rw [Below.heap_setCell _ _ _ _ h1]; exact h.1, by rw [Below.heap_setCell _ _ _ _ h2]; exact h.2⟩
theorem i64_fix {z : Int} (h0 : -9223372036854775808 ≤ z) (h1 : z ≤ 9223372036854775807) : IntKind.i64.wrap z = z := by
  rw [IntKind.wrap_i64]; omega

set_option maxHeartbeats 4000000 in
theorem at_yes (V c K : Nat) (b e : Int) (w : World) (hg : api_Geo_Check.f ((V : Int) + 1) b (c : Int) e = some 0) (hK : K < 4294967295) :
    Calls Try.prog 35 #[gV ((V : Int) + 1) b c e, .int .u32 ((K : Int) + 1)] w fun r w' =>
      r = .returned (.tuple #[.agg #[.int .i64 ((K / V / c : Nat) : Int), .int .i64 ((K / V % c : Nat) : Int), .int .i64 ((K % V : Nat) : Int)], .bool (decide (((K / V / c : Nat) : Int) < b - 5))]) ∧ Below w.heap.size w w' := by
  obtain ⟨ha0, ha1, hb0, hb1, hc0, hc1⟩ := geo_ok hg
  have hV : 2 ≤ V ∧ V ≤ 15 := by omega
  obtain ⟨s, hs⟩ : ∃ s, s = K / V := ⟨_, rfl⟩
  have hsK : s ≤ K := by rw [hs]; exact Nat.div_le_self _ _
  have hq1 : IntKind.i64.wrap ((K : Int) / (V : Int)) = (s : Int) := by
    rw [show (K : Int) / (V : Int) = (s : Int) by rw [hs]; simp]; exact i64_fix (by omega) (by omega)
  obtain ⟨x, hx⟩ : ∃ x, x = s / c := ⟨_, rfl⟩
  have hxs : x ≤ s := by rw [hx]; exact Nat.div_le_self _ _
  have hq2 : IntKind.i64.wrap ((s : Int) / (c : Int)) = (x : Int) := by
    rw [show (s : Int) / (c : Int) = (x : Int) by rw [hx]; simp]; exact i64_fix (by omega) (by omega)
  obtain ⟨y, hy⟩ : ∃ y, y = s % c := ⟨_, rfl⟩
  have hq3 : (s : Int).tmod (c : Int) = (y : Int) := by rw [Int.tmod_eq_emod_of_nonneg (by omega), hy]; simp
  obtain ⟨z, hz⟩ : ∃ z, z = K % V := ⟨_, rfl⟩
  have hq4 : (K : Int).tmod (V : Int) = (z : Int) := by rw [Int.tmod_eq_emod_of_nonneg (by omega), hz]; simp
  rw [← hs, ← hx, ← hy, ← hz]
  have hVn : ¬ V = 0 := by omega
  have hcn : ¬ c = 0 := by omega
  clear hs hx hy hz
  go_enter Try.func35, Try.ntmps35
  go_wp2_with fail
  refine (api_Geo_Check.calls _ b c e 0 _ hg).mono ?_
  rintro e1 w1 ⟨rfl, hbw⟩
  have hP : w1.heap[w.heap.size + 1]? = some (.cells #[.int .i64 0, .int .i64 0, .int .i64 0] 58 (0, 0)) := heap_keep hbw (heap_is (by simp))
  have hG : w1.heap[w.heap.size]? = some (.cells #[.int .i64 ((V : Int) + 1), .int .i64 b, .int .i64 (c : Int), .int .i64 e] 49 (0, 0)) := heap_keep hbw (heap_old _ (heap_is rfl))
  have hbel : Below w.heap.size w w1 := (((Below.refl w.heap.size w).alloc (Nat.le_refl _) _).alloc (by simp) _).trans (hbw.mono (by simp; omega))
  clear hbw
  have k0 := cells_at hG 0 _ rfl
  have k1 := cells_at hG 1 _ rfl
  have k2 := cells_at hG 2 _ rfl
  have k3 := cells_at hG 3 _ rfl
  have hn0 : ((K : Int) + 1 == 0) = false := by rw [beq_eq_false_iff_ne]; omega
  go_wp2_with fail
  refine (width_calls V b c e _ (by omega)).mono ?_
  rintro e2 w2 ⟨rfl, hb2⟩
  have hP2 := heap_keep hb2 hP
  have hG2 := heap_keep hb2 hG
  have hbel2 := hbel.trans (hb2.mono hbel.size)
  clear hb2 hP hG hbel k0 k1 k2 k3
  have k0 := cells_at hG2 0 _ rfl
  have k1 := cells_at hG2 1 _ rfl
  have k2 := cells_at hG2 2 _ rfl
  have k3 := cells_at hG2 3 _ rfl
  have hlG := heap_lt hG2
  have hlP := heap_lt hP2
  go_wp2_with fail
  go_region
  go_wp2_with fail
  have hX3 : (w2.alloc (.cells #[.int .i64 (x : Int), .int .i64 (y : Int), .int .i64 (z : Int)] 58)).heap[w2.heap.size]? = some (.cells #[.int .i64 (x : Int), .int .i64 (y : Int), .int .i64 (z : Int)] 58 (0, 0)) := heap_is rfl
  have hG3 := heap_old (.cells #[.int .i64 (x : Int), .int .i64 (y : Int), .int .i64 (z : Int)] 58) hG2
  have hP3 := heap_old (.cells #[.int .i64 (x : Int), .int .i64 (y : Int), .int .i64 (z : Int)] 58) hP2
  have hbel3 : Below w.heap.size w (w2.alloc (.cells #[.int .i64 (x : Int), .int .i64 (y : Int), .int .i64 (z : Int)] 58)) := hbel2.alloc hbel2.size _
  obtain ⟨bx, hbx⟩ : ∃ bx, bx = w2.heap.size := ⟨_, rfl⟩
  rw [← hbx] at hX3 hlG hlP ⊢
  clear hG2 hP2 hbel2 k0 k1 k2 k3 hbx hq1 hq2 hq3 hq4
  generalize w2.alloc (.cells #[.int .i64 (x : Int), .int .i64 (y : Int), .int .i64 (z : Int)] 58) = w3 at hX3 hG3 hP3 hbel3 ⊢
  obtain ⟨A, hA⟩ : ∃ A, A = Obj.cells #[.int .i64 (x : Int), .int .i64 (y : Int), .int .i64 (z : Int)] 58 (0, 0) := ⟨_, rfl⟩
  obtain ⟨B, hB⟩ : ∃ B, B = Obj.cells #[.int .i64 ((V : Int) + 1), .int .i64 b, .int .i64 (c : Int), .int .i64 e] 49 (0, 0) := ⟨_, rfl⟩
  have c0 : ∀ w', Two bx w.heap.size A B w' → w'.cell? ⟨bx, 0, none⟩ = some (.int .i64 (x : Int)) := fun w' h => cells_at (hA ▸ h.1) 0 _ rfl
  have c1 : ∀ w', Two bx w.heap.size A B w' → w'.cell? ⟨bx, 1, none⟩ = some (.int .i64 (y : Int)) := fun w' h => cells_at (hA ▸ h.1) 1 _ rfl
  have c2 : ∀ w', Two bx w.heap.size A B w' → w'.cell? ⟨bx, 2, none⟩ = some (.int .i64 (z : Int)) := fun w' h => cells_at (hA ▸ h.1) 2 _ rfl
  have g0 : ∀ w', Two bx w.heap.size A B w' → w'.cell? ⟨w.heap.size, 0, none⟩ = some (.int .i64 ((V : Int) + 1)) := fun w' h => cells_at (hB ▸ h.2) 0 _ rfl
  have g1 : ∀ w', Two bx w.heap.size A B w' → w'.cell? ⟨w.heap.size, 1, none⟩ = some (.int .i64 b) := fun w' h => cells_at (hB ▸ h.2) 1 _ rfl
  have g2 : ∀ w', Two bx w.heap.size A B w' → w'.cell? ⟨w.heap.size, 2, none⟩ = some (.int .i64 (c : Int)) := fun w' h => cells_at (hB ▸ h.2) 2 _ rfl
  have g3 : ∀ w', Two bx w.heap.size A B w' → w'.cell? ⟨w.heap.size, 3, none⟩ = some (.int .i64 e) := fun w' h => cells_at (hB ▸ h.2) 3 _ rfl
  have hT3 : Two bx w.heap.size A B w3 := ⟨hA ▸ hX3, hB ▸ hG3⟩
  clear hX3 hG3 hA hB
  (refine wp_region_mix [0, 1, 2, 3, 4, 5, 6, 7] [(true, false), (true, true), (true, false), (true, false), (false, true), (true, true), (false, true), (true, true)] [0, 0, 2, 0, 8, 30, 25, 127] (Two bx w.heap.size A B) (by kernel_rfl) (by kernel_rfl) ?_ ?_; rotate_left; simp only [pickL, List.map_cons, List.map_nil, List.getD_cons_succ, List.getD_cons_zero])
  rotate_left
  exact hT3
  repeat (first | (refine mix_pure (fun hne K hK => ?_); go_simp; refine hK _ ?_; clear hK K hne) | (refine mix_load ?_ (fun K hK => ?_); (focus (first | rfl | (go_simp; done))); apply Exists.intro; apply And.intro; (focus (intro w' hC; go_simp; exact rfl)); go_simp; refine hK _ ?_; clear hK K) | (refine mix_skip ?_ (fun K hK => ?_); (focus (first | rfl | (go_simp; done))); go_simp; refine hK _ ?_; clear hK K))
  (refine mix_one (by first | rfl | (go_simp; done)) (fun R hR hX => ?_))
  go_wp2_with fail
  refine (virt_calls _ b c e _ ⟨hb0, hb1⟩).mono ?_
  rintro e4 w4 ⟨rfl, hb4⟩
  have hb34 : Below w3.heap.size w3 w4 := (⟨rfl, rfl, rfl, Nat.le_refl _, fun _ _ => rfl⟩ : Below w3.heap.size w3 w3.drew.drew).trans (show Below w3.heap.size w3.drew.drew w4 from hb4)
  have hT4 := hT3.keep hb34
  have hP4 := heap_keep hb34 hP3
  have hbel4 := hbel3.trans (hb34.mono hbel3.size)
  clear hb4 hb34 hP3 hT3 hbel3
  go_wp2_with fail
  refine hR _ _ rfl ⟨_, hT4, fun _ => rfl, ?_⟩
  clear hR hX R
  repeat (first | (refine mix_pure (fun hne K hK => ?_); go_simp; refine hK _ ?_; clear hK K hne) | (refine mix_load ?_ (fun K hK => ?_); (focus (first | rfl | (go_simp; done))); apply Exists.intro; apply And.intro; (focus (intro w' hC; go_simp; exact rfl)); go_simp; refine hK _ ?_; clear hK K) | (refine mix_skip ?_ (fun K hK => ?_); (focus (first | rfl | (go_simp; done))); go_simp; refine hK _ ?_; clear hK K))
  have p0 := cells_at hP4 0 _ rfl
  have p1 := cells_at hP4 1 _ rfl
  have p2 := cells_at hP4 2 _ rfl
  have f0 := froz_at hP4 0
  have f1 := froz_at hP4 1
  have f2 := froz_at hP4 2
  (refine mix_one (by first | rfl | (go_simp; done)) (fun R hR hX => ?_))
  go_wp2_with fail
  refine hR _ _ rfl ⟨_, ((hT4.put _ _ _ ?_ ?_).put _ _ _ ?_ ?_).put _ _ _ ?_ ?_, fun _ => rfl, ?_⟩
  any_goals omega
  clear hR hX R
  repeat (first | (refine mix_pure (fun hne K hK => ?_); go_simp; refine hK _ ?_; clear hK K hne) | (refine mix_load ?_ (fun K hK => ?_); (focus (first | rfl | (go_simp; done))); apply Exists.intro; apply And.intro; (focus (intro w' hC; go_simp; exact rfl)); go_simp; refine hK _ ?_; clear hK K) | (refine mix_skip ?_ (fun K hK => ?_); (focus (first | rfl | (go_simp; done))); go_simp; refine hK _ ?_; clear hK K))
  refine mix_done ?_
  go_wp2_with fail
  refine bodyPost_ret (YtoalihddfgehjaaW.PrintWords.results_ct rfl _ _ (w.heap.size + 1) _ _ _ _ rfl (set3 hP4) Try.underlying58 rfl (by kernel_rfl)) rfl ?_
  exact ⟨rfl, below_put (below_put (below_put hbel4 _ _ _ (by omega)) _ _ _ (by omega)) _ _ _ (by omega)⟩
end Go.Proofs.Ytoalihddfgehjaa.AtW
