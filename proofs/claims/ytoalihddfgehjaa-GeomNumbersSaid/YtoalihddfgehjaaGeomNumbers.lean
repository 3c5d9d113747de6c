/- GeomNumbers: the walk. -/
--only r1
import Derived.Test.YtoalihddfgehjaaNumber
import Derived.Test.YtoalihddfgehjaaOpens
import Derived.Test.YtoalihddfgehjaaGeomNexts
namespace Go.Proofs.Ytoalihddfgehjaa.lawGeomNumbers
set_option linter.unusedVariables false
set_option linter.unusedSimpArgs false
open Go.RowKit Go.Proofs.Ytoalihddfgehjaa.PGeomStripes Go.Proofs.Ytoalihddfgehjaa.AtW Go.Proofs.Ytoalihddfgehjaa.NumberW Go.ChangeShapes Go.WideShapes

abbrev oG (a b c e : Int) : Obj := .cells #[.int .i64 a, .int .i64 b, .int .i64 c, .int .i64 e] 49 (0, 0)
abbrev oP (s r q : Int) : Obj := .cells #[.int .i64 s, .int .i64 r, .int .i64 q] 58 (0, 0)

set_option maxHeartbeats 8000000 in
theorem law_no (a b c e s r q n : Int) (w : World) (hz : api_Geo_Check.f a b c e = some 34) :
    Calls Try.prog 18 #[gV a b c e, pV s r q, .int .u32 n] w fun x w' => x = .returned (.bool true) ∧ Below w.heap.size w w' := by
  have hN : ∀ w, Calls Try.prog 48 #[gV a b c e, pV s r q] w fun x w' => x = .returned (.int .u32 0) ∧ Below w.heap.size w w' := fun w => by
    have := number_calls a b c e s r q 34 w hz (fun h => by omega) (.inl rfl)
    exact this
  have hA := fun w => at_no a b c e n w (.inl hz)
  have hchk := fun w => api_Geo_Check.calls a b c e 34 w hz
  clear hz
  go_enter Try.func18, Try.ntmps18
  go_wp2_with fail
  refine (hN _).mono ?_
  rintro e1 w1 ⟨rfl, hb1⟩
  have hG : w1.heap[w.heap.size]? = some (oG a b c e) := heap_keep hb1 (heap_old _ (heap_is rfl))
  have hbel : Below w.heap.size w w1 := (((Below.refl w.heap.size w).alloc (Nat.le_refl _) _).alloc (by simp) _).trans (hb1.mono (by simp; omega))
  clear hb1
  have k0 := cells_at hG 0 _ rfl
  have k1 := cells_at hG 1 _ rfl
  have k2 := cells_at hG 2 _ rfl
  have k3 := cells_at hG 3 _ rfl
  go_wp2_with fail
  refine (hA _).mono ?_
  rintro e2 w2 ⟨rfl, hb2⟩
  have hG2 := heap_keep hb2 hG
  replace hbel := hbel.trans (hb2.mono hbel.size)
  clear hb2 hG k0 k1 k2 k3
  have k0 := cells_at hG2 0 _ rfl
  have k1 := cells_at hG2 1 _ rfl
  have k2 := cells_at hG2 2 _ rfl
  have k3 := cells_at hG2 3 _ rfl
  have hl2 := heap_lt hG2
  go_wp2_with fail
  refine (hchk _).mono ?_
  rintro e3 w3 ⟨rfl, hb3⟩
  have hQ : w3.heap[w2.heap.size]? = some (oP 0 0 0) := heap_keep hb3 (heap_is rfl)
  replace hbel := (hbel.alloc hbel.size (oP 0 0 0)).trans (hb3.mono (by simp; have := hbel.size; omega))
  clear hb3 hG2 k0 k1 k2 k3
  go_wp2_with fail
  refine (lawGeomNexts.placed_calls _).mono ?_
  rintro e4 w4 ⟨rfl, hb4⟩
  have hQ4 := heap_keep hb4 hQ
  replace hbel := hbel.trans (hb4.mono hbel.size)
  clear hb4 hQ
  have q0 := cells_at hQ4 0 _ rfl
  have q1 := cells_at hQ4 1 _ rfl
  have q2 := cells_at hQ4 2 _ rfl
  go_wp2_with fail
  go_ret
  exact ⟨rfl, hbel⟩

set_option maxHeartbeats 8000000 in
theorem law_yes (a b c e s r q n k x y u M : Int) (ok : Bool) (w : World) (ha : 3 ≤ a ∧ a ≤ 16) (hb : 16 ≤ b ∧ b ≤ 64) (hc : 4 ≤ c ∧ c ≤ 32) (hk0 : 0 ≤ k ∧ k ≤ 4294967295) (hn0 : 0 ≤ n ∧ n ≤ 4294967295)
    (hM : IntKind.i64.wrap (IntKind.i64.wrap ((b - 5) * c) * IntKind.i64.wrap (a - 1)) = M) (hin : ok = (decide (1 ≤ n) && decide (n ≤ M)))
    (hchk : ∀ w, Calls Try.prog 30 #[gV a b c e] w fun x w' => x = .returned (.int .i64 0) ∧ Below w.heap.size w w')
    (hN : ∀ w, Calls Try.prog 48 #[gV a b c e, pV s r q] w fun x w' => x = .returned (.int .u32 k) ∧ Below w.heap.size w w')
    (hR : ∀ w, Calls Try.prog 49 #[gV a b c e, .int .i64 s, .int .i64 r, .int .i64 q] w fun x w' => x = .returned (.int .i64 k) ∧ Below w.heap.size w w')
    (hA : ∀ w, Calls Try.prog 35 #[gV a b c e, .int .u32 n] w fun r w' => r = .returned (.tuple #[.agg #[.int .i64 x, .int .i64 y, .int .i64 u], .bool ok]) ∧ Below w.heap.size w w')
    (hA2 : k = 0 ∨ k ≠ 0 ∧ ∀ w, Calls Try.prog 35 #[gV a b c e, .int .u32 k] w fun z w' => z = .returned (.tuple #[.agg #[.int .i64 s, .int .i64 r, .int .i64 q], .bool true]) ∧ Below w.heap.size w w')
    (hN2 : ok = false ∨ ok = true ∧ ∀ w, Calls Try.prog 48 #[gV a b c e, pV x y u] w fun z w' => z = .returned (.int .u32 n) ∧ Below w.heap.size w w') :
    Calls Try.prog 18 #[gV a b c e, pV s r q, .int .u32 n] w fun x w' => x = .returned (.bool true) ∧ Below w.heap.size w w' := by
  have HIN := Lib.hid hin
  have HM := Lib.hid hM
  have HA2 := Lib.hid hA2
  have HN2 := Lib.hid hN2
  have hfit : IntKind.i64.wrap k = k := IntWalk.i64_in _ (by omega)
  have hfitn : IntKind.i64.wrap n = n := IntWalk.i64_in _ (by omega)
  have hself : (k != k) = false := by simp
  clear hin hM hA2 hN2
  go_enter Try.func18, Try.ntmps18
  go_wp2_with fail
  refine (hN _).mono ?_
  rintro e1 w1 ⟨rfl, hb1⟩
  have hG : w1.heap[w.heap.size]? = some (oG a b c e) := heap_keep hb1 (heap_old _ (heap_is rfl))
  have hP : w1.heap[w.heap.size + 1]? = some (oP s r q) := heap_keep hb1 (heap_is (by simp))
  have hbel : Below w.heap.size w w1 := (((Below.refl w.heap.size w).alloc (Nat.le_refl _) _).alloc (by simp) _).trans (hb1.mono (by simp; omega))
  clear hb1 hN
  obtain ⟨bg, hbg⟩ : ∃ bg, bg = w.heap.size := ⟨_, rfl⟩
  have FIN : Hid (∀ w', Below bg w w' → Below w.heap.size w w') := fun w' h => hbg ▸ h
  rw [← hbg] at hG hP hbel ⊢
  obtain ⟨bp, hbp⟩ : ∃ bp, bp = bg + 1 := ⟨_, rfl⟩
  rw [← hbp] at hP ⊢
  have hsz := hbel.size
  have hbs : bg ≤ w.heap.size := by omega
  clear hbg hbp
  (have k0 := cells_at hG 0 _ rfl; have k1 := cells_at hG 1 _ rfl; have k2 := cells_at hG 2 _ rfl; have k3 := cells_at hG 3 _ rfl; have p0 := cells_at hP 0 _ rfl; have p1 := cells_at hP 1 _ rfl; have p2 := cells_at hP 2 _ rfl)
  go_wp2_with fail
  refine (hA _).mono ?_
  rintro e2 w2 ⟨rfl, hb2⟩
  (replace hbel := hbel.trans (hb2.mono (Nat.le_of_lt (heap_lt hG))); replace hG := heap_keep hb2 hG; replace hP := heap_keep hb2 hP; clear k0 k1 k2 k3 p0 p1 p2)
  have hl2 := heap_lt hG
  have hl2p := heap_lt hP
  (have k0 := cells_at hG 0 _ rfl; have k1 := cells_at hG 1 _ rfl; have k2 := cells_at hG 2 _ rfl; have k3 := cells_at hG 3 _ rfl; have p0 := cells_at hP 0 _ rfl; have p1 := cells_at hP 1 _ rfl; have p2 := cells_at hP 2 _ rfl)
  clear hA
  go_wp2_with fail
  refine (hchk _).mono ?_
  rintro e3 w3 ⟨rfl, hb3⟩
  have hQ : w3.heap[w2.heap.size]? = some (oP x y u) := heap_keep hb3 (heap_is rfl)
  obtain ⟨bq, hbq⟩ : ∃ bq, bq = w2.heap.size := ⟨_, rfl⟩
  replace hG := heap_keep hb3 (heap_old _ hG)
  replace hP := heap_keep hb3 (heap_old _ hP)
  replace hbel := (hbel.alloc (Nat.le_of_lt hl2) (oP x y u)).trans (hb3.mono (by simp; omega))
  rw [← hbq] at hQ hl2 hl2p ⊢
  clear hb3 k0 k1 k2 k3 p0 p1 p2 hbq hchk hsz
  (have k0 := cells_at hG 0 _ rfl; have k1 := cells_at hG 1 _ rfl; have k2 := cells_at hG 2 _ rfl; have k3 := cells_at hG 3 _ rfl; have p0 := cells_at hP 0 _ rfl; have p1 := cells_at hP 1 _ rfl; have p2 := cells_at hP 2 _ rfl)
  go_wp2_with fail
  refine (lawGeomNexts.placed_calls _).mono ?_
  rintro e4 w4 ⟨rfl, hb4⟩
  (replace hbel := hbel.trans (hb4.mono (Nat.le_of_lt (heap_lt hG))); replace hG := heap_keep hb4 hG; replace hP := heap_keep hb4 hP; clear k0 k1 k2 k3 p0 p1 p2)
  replace hQ := heap_keep hb4 hQ
  clear hb4
  (have k0 := cells_at hG 0 _ rfl; have k1 := cells_at hG 1 _ rfl; have k2 := cells_at hG 2 _ rfl; have k3 := cells_at hG 3 _ rfl; have p0 := cells_at hP 0 _ rfl; have p1 := cells_at hP 1 _ rfl; have p2 := cells_at hP 2 _ rfl)
  go_wp2_with fail
  refine (hR _).mono ?_
  rintro e5 w5 ⟨rfl, hb5⟩
  (replace hbel := hbel.trans (hb5.mono (Nat.le_of_lt (heap_lt hG))); replace hG := heap_keep hb5 hG; replace hP := heap_keep hb5 hP; clear k0 k1 k2 k3 p0 p1 p2)
  replace hQ := heap_keep hb5 hQ
  clear hb5 hR
  (have k0 := cells_at hG 0 _ rfl; have k1 := cells_at hG 1 _ rfl; have k2 := cells_at hG 2 _ rfl; have k3 := cells_at hG 3 _ rfl; have p0 := cells_at hP 0 _ rfl; have p1 := cells_at hP 1 _ rfl; have p2 := cells_at hP 2 _ rfl)
  have q0 := cells_at hQ 0 _ rfl
  have q1 := cells_at hQ 1 _ rfl
  have q2 := cells_at hQ 2 _ rfl
  rcases HA2.out with hk | ⟨hk, hA⟩
  · have hkb : (k == 0) = true := by simp [hk]
    have hkc : (k != 0) = false := by simp [hk]
    clear hk
    go_wp2_with fail
    (clear k0 k1 k2 k3 p0 p1 p2; (try clear q0 q1 q2); have g0 : ∀ w', Below w5.heap.size w5 w' → w'.cell? ⟨bg, 0, none⟩ = some (.int .i64 a) := fun w' h => cells_at (heap_keep h hG) 0 _ rfl; have g1 : ∀ w', Below w5.heap.size w5 w' → w'.cell? ⟨bg, 1, none⟩ = some (.int .i64 b) := fun w' h => cells_at (heap_keep h hG) 1 _ rfl; have g2 : ∀ w', Below w5.heap.size w5 w' → w'.cell? ⟨bg, 2, none⟩ = some (.int .i64 c) := fun w' h => cells_at (heap_keep h hG) 2 _ rfl; have g3 : ∀ w', Below w5.heap.size w5 w' → w'.cell? ⟨bg, 3, none⟩ = some (.int .i64 e) := fun w' h => cells_at (heap_keep h hG) 3 _ rfl; ((refine wp_region_mix [0, 2, 3, 5, 6, 7, 1, 4, 8, 9] [(true, false), (true, true), (true, false), (true, true), (true, false), (true, true), (false, true), (true, true), (true, true), (true, true)] [0, 1, 0, 4, 15, 0, 32, 96, 255, 511] (fun w' => Below w5.heap.size w5 w') (by kernel_rfl) (by kernel_rfl) ?_ ?_; rotate_left; simp only [pickL, List.map_cons, List.map_nil, List.getD_cons_succ, List.getD_cons_zero]); rotate_left; (focus exact ⟨rfl, rfl, rfl, Nat.le_refl _, fun _ _ => rfl⟩); have hC : Below w5.heap.size w5 w5.drew := ⟨rfl, rfl, rfl, Nat.le_refl _, fun _ _ => rfl⟩); (repeat (first | (refine mix_pure (fun hne K hK => ?_); go_simp; refine hK _ ?_; clear hK K hne) | (refine mix_load ?_ (fun K hK => ?_); (focus (first | rfl | (go_simp; done))); apply Exists.intro; apply And.intro; (focus (intro w' hC; go_simp; exact rfl)); go_simp; refine hK _ ?_; clear hK K) | (refine mix_skip ?_ (fun K hK => ?_); (focus (first | rfl | (go_simp; done))); go_simp; refine hK _ ?_; clear hK K))); ((refine mix_one (by first | rfl | (go_simp; done)) (fun R hR hX => ?_)); go_wp2_with fail; refine (virt_calls a b c e _ hb).mono ?_; rintro e wn ⟨rfl, hbn⟩; replace hC := below_step hC hbn rfl rfl rfl rfl hC.size; clear hbn; go_wp2_with fail; refine hR _ _ rfl ⟨_, hC, fun _ => rfl, ?_⟩; clear hR hX R); (repeat (first | (refine mix_pure (fun hne K hK => ?_); go_simp; refine hK _ ?_; clear hK K hne) | (refine mix_load ?_ (fun K hK => ?_); (focus (first | rfl | (go_simp; done))); apply Exists.intro; apply And.intro; (focus (intro w' hC; go_simp; exact rfl)); go_simp; refine hK _ ?_; clear hK K) | (refine mix_skip ?_ (fun K hK => ?_); (focus (first | rfl | (go_simp; done))); go_simp; refine hK _ ?_; clear hK K))); refine mix_done ?_; clear g0 g1 g2 g3; rw [HM.out]; replace hbel := hbel.trans (hC.mono (Nat.le_of_lt (heap_lt hG))); replace hG := heap_keep hC hG; replace hQ := heap_keep hC hQ; clear hC; (try clear hP); have k0 := cells_at hG 0 _ rfl; have k1 := cells_at hG 1 _ rfl; have k2 := cells_at hG 2 _ rfl; have k3 := cells_at hG 3 _ rfl; have q0 := cells_at hQ 0 _ rfl; have q1 := cells_at hQ 1 _ rfl; have q2 := cells_at hQ 2 _ rfl; have hok := HIN.out; have hn2 := HN2.out; by_cases c1 : 1 ≤ n; (by_cases c2 : n ≤ M; (rw [decide_eq_true c1, decide_eq_true c2] at hok; obtain rfl : ok = true := hok; have hNN := (hn2.resolve_left (fun h => by cases h)).2; clear hn2; have hnn : (n == n) = true := beq_self_eq_true n; go_wp2_with fail; refine (hNN _).mono ?_; rintro e9 w9 ⟨rfl, hb9⟩; go_wp2_with fail; go_ret; exact ⟨rfl, FIN.out _ (hbel.trans (hb9.mono (Nat.le_of_lt (heap_lt hG))))⟩); (rw [decide_eq_true c1, decide_eq_false (by omega : ¬ n ≤ M)] at hok; obtain rfl : ok = false := hok; clear hn2; go_wp2_with fail; go_ret; exact ⟨rfl, FIN.out _ hbel⟩)); (rw [decide_eq_false (by omega : ¬ 1 ≤ n)] at hok; obtain rfl : ok = false := hok; clear hn2; go_wp2_with fail; go_ret; exact ⟨rfl, FIN.out _ hbel⟩))
  · have hkb : (k == 0) = false := by simp [hk]
    have hkc : (k != 0) = true := by simp [hk]
    clear hk
    go_wp2_with fail
    refine (hA _).mono ?_
    rintro e6 w6 ⟨rfl, hb6⟩
    (replace hbel := hbel.trans (hb6.mono (Nat.le_of_lt (heap_lt hG))); replace hG := heap_keep hb6 hG; replace hP := heap_keep hb6 hP; clear k0 k1 k2 k3 p0 p1 p2)
    replace hQ := heap_keep hb6 hQ
    clear hb6 hA q0 q1 q2
    have hlQ := heap_lt hQ
    have hlP := heap_lt hP
    have hlG := heap_lt hG
    (have k0 := cells_at hG 0 _ rfl; have k1 := cells_at hG 1 _ rfl; have k2 := cells_at hG 2 _ rfl; have k3 := cells_at hG 3 _ rfl; have p0 := cells_at hP 0 _ rfl; have p1 := cells_at hP 1 _ rfl; have p2 := cells_at hP 2 _ rfl)
    go_wp2_with fail
    replace hbel := hbel.alloc (Nat.le_of_lt hlG) (oP s r q)
    replace hG := heap_old (oP s r q) hG
    replace hQ := heap_old (oP s r q) hQ
    replace hP := heap_old (oP s r q) hP
    generalize w6.alloc (oP s r q) = w7 at hG hQ hP hbel ⊢
    (clear k0 k1 k2 k3 p0 p1 p2; (try clear q0 q1 q2); have g0 : ∀ w', Below w7.heap.size w7 w' → w'.cell? ⟨bg, 0, none⟩ = some (.int .i64 a) := fun w' h => cells_at (heap_keep h hG) 0 _ rfl; have g1 : ∀ w', Below w7.heap.size w7 w' → w'.cell? ⟨bg, 1, none⟩ = some (.int .i64 b) := fun w' h => cells_at (heap_keep h hG) 1 _ rfl; have g2 : ∀ w', Below w7.heap.size w7 w' → w'.cell? ⟨bg, 2, none⟩ = some (.int .i64 c) := fun w' h => cells_at (heap_keep h hG) 2 _ rfl; have g3 : ∀ w', Below w7.heap.size w7 w' → w'.cell? ⟨bg, 3, none⟩ = some (.int .i64 e) := fun w' h => cells_at (heap_keep h hG) 3 _ rfl; ((refine wp_region_mix [0, 2, 3, 5, 6, 7, 1, 4, 8, 9] [(true, false), (true, true), (true, false), (true, true), (true, false), (true, true), (false, true), (true, true), (true, true), (true, true)] [0, 1, 0, 4, 15, 0, 32, 96, 255, 511] (fun w' => Below w7.heap.size w7 w') (by kernel_rfl) (by kernel_rfl) ?_ ?_; rotate_left; simp only [pickL, List.map_cons, List.map_nil, List.getD_cons_succ, List.getD_cons_zero]); rotate_left; (focus exact ⟨rfl, rfl, rfl, Nat.le_refl _, fun _ _ => rfl⟩); have hC : Below w7.heap.size w7 w7.drew := ⟨rfl, rfl, rfl, Nat.le_refl _, fun _ _ => rfl⟩); (repeat (first | (refine mix_pure (fun hne K hK => ?_); go_simp; refine hK _ ?_; clear hK K hne) | (refine mix_load ?_ (fun K hK => ?_); (focus (first | rfl | (go_simp; done))); apply Exists.intro; apply And.intro; (focus (intro w' hC; go_simp; exact rfl)); go_simp; refine hK _ ?_; clear hK K) | (refine mix_skip ?_ (fun K hK => ?_); (focus (first | rfl | (go_simp; done))); go_simp; refine hK _ ?_; clear hK K))); ((refine mix_one (by first | rfl | (go_simp; done)) (fun R hR hX => ?_)); go_wp2_with fail; refine (virt_calls a b c e _ hb).mono ?_; rintro e wn ⟨rfl, hbn⟩; replace hC := below_step hC hbn rfl rfl rfl rfl hC.size; clear hbn; go_wp2_with fail; refine hR _ _ rfl ⟨_, hC, fun _ => rfl, ?_⟩; clear hR hX R); (repeat (first | (refine mix_pure (fun hne K hK => ?_); go_simp; refine hK _ ?_; clear hK K hne) | (refine mix_load ?_ (fun K hK => ?_); (focus (first | rfl | (go_simp; done))); apply Exists.intro; apply And.intro; (focus (intro w' hC; go_simp; exact rfl)); go_simp; refine hK _ ?_; clear hK K) | (refine mix_skip ?_ (fun K hK => ?_); (focus (first | rfl | (go_simp; done))); go_simp; refine hK _ ?_; clear hK K))); refine mix_done ?_; clear g0 g1 g2 g3; rw [HM.out]; replace hbel := hbel.trans (hC.mono (Nat.le_of_lt (heap_lt hG))); replace hG := heap_keep hC hG; replace hQ := heap_keep hC hQ; clear hC; (try clear hP); have k0 := cells_at hG 0 _ rfl; have k1 := cells_at hG 1 _ rfl; have k2 := cells_at hG 2 _ rfl; have k3 := cells_at hG 3 _ rfl; have q0 := cells_at hQ 0 _ rfl; have q1 := cells_at hQ 1 _ rfl; have q2 := cells_at hQ 2 _ rfl; have hok := HIN.out; have hn2 := HN2.out; by_cases c1 : 1 ≤ n; (by_cases c2 : n ≤ M; (rw [decide_eq_true c1, decide_eq_true c2] at hok; obtain rfl : ok = true := hok; have hNN := (hn2.resolve_left (fun h => by cases h)).2; clear hn2; have hnn : (n == n) = true := beq_self_eq_true n; go_wp2_with fail; refine (hNN _).mono ?_; rintro e9 w9 ⟨rfl, hb9⟩; go_wp2_with fail; go_ret; exact ⟨rfl, FIN.out _ (hbel.trans (hb9.mono (Nat.le_of_lt (heap_lt hG))))⟩); (rw [decide_eq_true c1, decide_eq_false (by omega : ¬ n ≤ M)] at hok; obtain rfl : ok = false := hok; clear hn2; go_wp2_with fail; go_ret; exact ⟨rfl, FIN.out _ hbel⟩)); (rw [decide_eq_false (by omega : ¬ 1 ≤ n)] at hok; obtain rfl : ok = false := hok; clear hn2; go_wp2_with fail; go_ret; exact ⟨rfl, FIN.out _ hbel⟩))

theorem split_K (V c s r q : Nat) (hr : r < c) (hq : q < V) : ((s * c + r) * V + q) / V / c = s ∧ ((s * c + r) * V + q) / V % c = r ∧ ((s * c + r) * V + q) % V = q := by
  have e1 : ((s * c + r) * V + q) / V = s * c + r := by
    rw [Nat.mul_comm, Nat.mul_add_div (by omega), Nat.div_eq_of_lt hq]; rfl
  have e2 : ((s * c + r) * V + q) % V = q := by
    rw [Nat.mul_comm, Nat.mul_add_mod, Nat.mod_eq_of_lt hq]
  rw [e1, e2]
  refine ⟨?_, ?_, rfl⟩
  · rw [Nat.mul_comm, Nat.mul_add_div (by omega), Nat.div_eq_of_lt hr]; rfl
  · rw [Nat.mul_comm, Nat.mul_add_mod, Nat.mod_eq_of_lt hr]
theorem join_K (V c K : Nat) : (K / V / c * c + K / V % c) * V + K % V = K := by
  have h1 := Nat.div_add_mod K V
  have h2 := Nat.div_add_mod (K / V) c
  have e : K / V / c * c + K / V % c = K / V := by rw [Nat.mul_comm]; exact h2
  rw [e, Nat.mul_comm]; exact h1
theorem lt_K (V c K B : Nat) (hV : 0 < V) (hc : 0 < c) : K / V / c < B ↔ K < B * c * V := by
  rw [Nat.div_lt_iff_lt_mul hc, Nat.div_lt_iff_lt_mul hV]

set_option maxHeartbeats 1000000 in
theorem law (a b c e s r q n : Int) (w : World) (hn0 : 0 ≤ n ∧ n ≤ 4294967295) :
    Calls Try.prog 18 #[gV a b c e, pV s r q, .int .u32 n] w fun x w' => x = .returned (.bool true) ∧ Below w.heap.size w w' := by
  rcases geo_two a b c e with hz | hz
  case inr => exact law_no a b c e s r q n w hz
  obtain ⟨ha0, ha1, hb0, hb1, hc0, hc1⟩ := geo_ok hz
  have hN : ∀ w s r q, Calls Try.prog 48 #[gV a b c e, pV s r q] w fun x w' => x = .returned (.int .u32 (numOf a b c s r q)) ∧ Below w.heap.size w w' := fun w s r q => by
    have := number_calls a b c e s r q 0 w hz (fun _ => ⟨ha0, ha1, hb0, hb1, hc0, hc1⟩) (.inr rfl)
    exact this
  obtain ⟨V, rfl⟩ : ∃ V : Nat, a = (V : Int) + 1 := ⟨(a - 1).toNat, by omega⟩
  obtain ⟨c', rfl⟩ : ∃ m : Nat, c = m := ⟨c.toNat, by omega⟩
  obtain ⟨B, hB⟩ : ∃ B : Nat, b - 5 = (B : Int) := ⟨(b - 5).toNat, by omega⟩
  have hM : IntKind.i64.wrap (IntKind.i64.wrap ((b - 5) * (c' : Int)) * IntKind.i64.wrap ((V : Int) + 1 - 1)) = ((B * c' * V : Nat) : Int) := by
    have l1 : B * c' ≤ 59 * 32 := Nat.mul_le_mul (by omega) (by omega)
    have l2 : B * c' * V ≤ 59 * 32 * 15 := Nat.mul_le_mul l1 (by omega)
    rw [hB, show (B : Int) * (c' : Int) = ((B * c' : Nat) : Int) by simp, IntWalk.i64_in ((B * c' : Nat) : Int) (by omega), IntWalk.i64_in ((V : Int) + 1 - 1) (by omega),
      show (V : Int) + 1 - 1 = (V : Int) by omega, show ((B * c' : Nat) : Int) * (V : Int) = ((B * c' * V : Nat) : Int) by simp, IntWalk.i64_in _ (by omega)]
  have hl2 : B * c' * V ≤ 59 * 32 * 15 := Nat.mul_le_mul (Nat.mul_le_mul (by omega) (by omega)) (by omega)
  -- the number, and its place
  have hk : (numOf ((V : Int) + 1) b c' s r q = 0) ∨ (0 < numOf ((V : Int) + 1) b c' s r q ∧ ∃ S R Q : Nat, s = S ∧ r = R ∧ q = Q ∧ (S : Int) < b - 5 ∧ R < c' ∧ Q < V ∧ numOf ((V : Int) + 1) b c' s r q = (((S * c' + R) * V + Q : Nat) : Int) + 1 ∧ (S * c' + R) * V + Q < 100000) := by
    unfold NumberW.numOf
    split
    · rename_i h
      obtain ⟨h1, h2, h3, h4, h5, h6⟩ := h
      right
      obtain ⟨S, rfl⟩ : ∃ m : Nat, s = m := ⟨s.toNat, by omega⟩
      obtain ⟨R, rfl⟩ : ∃ m : Nat, r = m := ⟨r.toNat, by omega⟩
      obtain ⟨Q, rfl⟩ : ∃ m : Nat, q = m := ⟨q.toNat, by omega⟩
      have l1 : S * c' ≤ 59 * 32 := Nat.mul_le_mul (by omega) (by omega)
      have l2 : (S * c' + R) * V ≤ (59 * 32 + 32) * 15 := Nat.mul_le_mul (by omega) (by omega)
      have e1 : ((S : Int) * (c' : Int) + (R : Int)) * ((V : Int) + 1 - 1) + (Q : Int) + 1 = (((S * c' + R) * V + Q : Nat) : Int) + 1 := by
        rw [show (V : Int) + 1 - 1 = (V : Int) by omega]; simp
      rw [e1]
      exact ⟨by omega, S, R, Q, rfl, rfl, rfl, h2, by omega, by omega, rfl, by omega⟩
    · exact .inl rfl
  have hA2 : numOf ((V : Int) + 1) b c' s r q = 0 ∨ numOf ((V : Int) + 1) b c' s r q ≠ 0 ∧ ∀ w, Calls Try.prog 35 #[gV ((V : Int) + 1) b c' e, .int .u32 (numOf ((V : Int) + 1) b c' s r q)] w fun z w' => z = .returned (.tuple #[.agg #[.int .i64 s, .int .i64 r, .int .i64 q], .bool true]) ∧ Below w.heap.size w w' := by
    rcases hk with h | ⟨h0, S, R, Q, rfl, rfl, rfl, h2, h4, h6, he, hl⟩
    · exact .inl h
    · refine .inr ⟨by omega, fun w => ?_⟩
      have := at_yes V c' ((S * c' + R) * V + Q) b e w hz (by omega)
      obtain ⟨e1, e2, e3⟩ := split_K V c' S R Q h4 h6
      rw [e1, e2, e3, decide_eq_true h2, ← he] at this
      exact this
  have hkb : 0 ≤ numOf ((V : Int) + 1) b c' s r q ∧ numOf ((V : Int) + 1) b c' s r q ≤ 4294967295 := by
    rcases hk with h | ⟨h0, S, R, Q, _, _, _, _, _, _, he, hl⟩ <;> omega
  have hR := fun w => refnumber_calls ((V : Int) + 1) b c' e s r q w ⟨ha0, ha1⟩ ⟨hb0, hb1⟩ ⟨hc0, hc1⟩
  have hchk := fun w => api_Geo_Check.calls ((V : Int) + 1) b c' e 0 w hz
  by_cases hn : n = 0
  · subst hn
    exact law_yes _ b c' e s r q 0 _ 0 0 0 _ false w ⟨ha0, ha1⟩ ⟨hb0, hb1⟩ ⟨hc0, hc1⟩ hkb (by omega) hM (by simp) hchk (fun w => hN w s r q) hR (fun w => at_no _ b c' e 0 w (.inr ⟨hz, rfl⟩)) hA2 (.inl rfl)
  · obtain ⟨K, hK⟩ : ∃ K : Nat, n = (K : Int) + 1 := ⟨(n - 1).toNat, by omega⟩
    have hat := fun w => at_yes V c' K b e w hz (by omega)
    rw [← hK] at hat
    have hlt := lt_K V c' K B (by omega) (by omega)
    refine law_yes _ b c' e s r q n _ _ _ _ _ _ w ⟨ha0, ha1⟩ ⟨hb0, hb1⟩ ⟨hc0, hc1⟩ hkb hn0 hM ?_ hchk (fun w => hN w s r q) hR hat hA2 ?_
    · have h1 : (1 : Int) ≤ n := by omega
      rw [decide_eq_true h1, Bool.true_and]
      refine decide_eq_decide.mpr ?_
      rw [hB]
      constructor
      · intro h
        have := hlt.mp (by omega)
        omega
      · intro h
        have := hlt.mpr (by omega)
        omega
    · by_cases hx : ((K / V / c' : Nat) : Int) < b - 5
      · refine .inr ⟨decide_eq_true hx, fun w => ?_⟩
        have h := hN w ((K / V / c' : Nat) : Int) ((K / V % c' : Nat) : Int) ((K % V : Nat) : Int)
        have e1 : numOf ((V : Int) + 1) b c' ((K / V / c' : Nat) : Int) ((K / V % c' : Nat) : Int) ((K % V : Nat) : Int) = n := by
          have hm : K / V % c' < c' := Nat.mod_lt _ (by omega)
          have hv : K % V < V := Nat.mod_lt _ (by omega)
          unfold NumberW.numOf
          rw [if_pos ⟨Int.natCast_nonneg _, hx, Int.natCast_nonneg _, Int.ofNat_lt.mpr hm, Int.natCast_nonneg _, by rw [show (V : Int) + 1 - 1 = (V : Int) by omega]; exact Int.ofNat_lt.mpr hv⟩, hK]
          have := join_K V c' K
          rw [show (V : Int) + 1 - 1 = (V : Int) by omega]
          have e : (((K / V / c' : Nat) : Int) * (c' : Int) + ((K / V % c' : Nat) : Int)) * (V : Int) + ((K % V : Nat) : Int) = (((K / V / c' * c' + K / V % c') * V + K % V : Nat) : Int) := by
            simp only [Int.natCast_add, Int.natCast_mul]
          rw [e, this]
        rw [e1] at h
        exact h
      · exact .inl (decide_eq_false hx)

theorem walk {H : Type} (enc : TypeId × Value → H) (W : World) (base : Nat) (v0 : Value) (d0 : DataW H) (p0 : List MemPlace)
    (hv0 : Value.okWide Try.prog W .any base 49 v0) (h0 : DataW.Trod enc Try.prog W 0 (fun _ => true) true 49 v0 d0 p0)
    (v1 : Value) (d1 : DataW H) (p1 : List MemPlace)
    (hv1 : Value.okWide Try.prog W .any base 58 v1) (h1 : DataW.Trod enc Try.prog W 0 (fun _ => true) true 58 v1 d1 p1)
    (v2 : Value) (d2 : DataW H) (p2 : List MemPlace)
    (hv2 : Value.okWide Try.prog W .any base 24 v2) (h2 : DataW.Trod enc Try.prog W 0 (fun _ => true) true 24 v2 d2 p2)
    (_hsz : (DataW.weightsEach Try.prog [49, 58, 24] [d0, d1, d2]).all (· ≤ reachBytes) = true) :
    Calls Try.prog 18 #[v0, v1, v2] W fun e W' => e = .returned (.bool true) ∧ Below W.heap.size W W' := by
  obtain ⟨a, b, c, d, rfl, _⟩ := opens_geo hv0 h0
  obtain ⟨s, r, q, rfl⟩ := opens_place hv1 h1
  obtain ⟨z, rfl, _, _, wz⟩ := open_int Try.underlying24 hv2 h2
  exact law a b c d s r q z W (lit_u32 wz)
end Go.Proofs.Ytoalihddfgehjaa.lawGeomNumbers
