/- RemapChecks: the walk. -/
--only r2
import Derived.Test.YtogejjbclimjjaaTabLaid
import Derived.Test.YtogejjbclimjjaaTabOpens
import Derived.Test.YtogejjbclimjjaaStr
namespace Go.Proofs.Ytogejjbclimjjaa.lawRemapChecks
set_option linter.unusedVariables false
set_option linter.unusedSimpArgs false
open Go.RowKit Go.ChangeShapes Go.WideShapes

set_option maxRecDepth 100000 in
set_option maxHeartbeats 1000000 in
theorem law (blocks : Int) (T : Tb) (vp vs : Value) (w : World) (hT : TabAt w T vp vs) :
    Calls Try.prog 5 #[tabV T vp vs, .int .i64 blocks] w fun e w' => e = .returned (.bool true) ∧ Below w.heap.size w w' := by
  have hfin : ∀ w', Below w.heap.size w w' → (fun e w' => e = Ending.returned (.bool true) ∧ Below w.heap.size w w') (.returned (.bool true)) w' := fun w' hb => ⟨rfl, hb⟩
  generalize (fun (e : Ending) (w' : World) => e = Ending.returned (.bool true) ∧ Below w.heap.size w w') = Post at hfin ⊢
  have HF := Lib.hid hfin
  obtain ⟨ap, kp, rfl, hl1, hl2⟩ := hT.p.form
  obtain ⟨ax, kx, rfl, hl3, hl4⟩ := hT.s.form
  obtain ⟨q, hq⟩ : ∃ q, q = w.heap.size := ⟨_, rfl⟩
  obtain ⟨w1, hw1⟩ : ∃ w1, w1 = w.alloc (.cells (T.cells (.slice ap T.place.length kp) (.slice ax T.spare.length kx)) 57) := ⟨_, rfl⟩
  have hb1 : Below w.heap.size w w1 := by rw [hw1]; exact (Below.refl _ _).alloc (Nat.le_refl _) _
  have hQ1 : w1.heap[q]? = some (.cells (T.cells (.slice ap T.place.length kp) (.slice ax T.spare.length kx)) 57 (0, 0)) := by rw [hw1]; exact heap_is hq
  have hT1 := hT.below hb1
  obtain ⟨b0, hb0, -, hsh⟩ := RI.shape2 blocks w1
  obtain ⟨b, hb⟩ : ∃ b, b = 16 + b0 := ⟨_, rfl⟩
  rw [← hb] at hsh
  have hb16 : 16 ≤ b ∧ b ≤ 64 := by omega
  have hg : geoOk (3 : Nat) (b : Nat) (4 : Nat) (256 : Nat) := by unfold geoOk; omega
  rw [show geoV ((3 : Nat) : Int) ((b : Nat) : Int) ((4 : Nat) : Int) ((256 : Nat) : Int) = .agg #[.int .i64 3, .int .i64 b, .int .i64 4, .int .i64 256] from rfl] at hsh
  have hQ1' := hQ1
  unfold Tb.cells at hQ1' hw1
  have c1 := cells_at hQ1' 1 _ rfl
  have c2 := cells_at hQ1' 2 _ rfl
  simp only [List.getElem_toArray, List.getElem_cons_succ, List.getElem_cons_zero] at c1 c2
  have hlq := heap_lt hQ1'
  have HW1 := Lib.hid hw1
  have HA := Lib.hid (⟨hb1, hQ1, hT1, hsh, hb16, hg⟩ : _ ∧ _ ∧ _ ∧ _ ∧ _ ∧ _)
  clear hQ1' hQ1 hw1 hT1 hT hb1 hsh hb16 hg hb hb0 hfin
  unfold tabV Tb.cells
  go_enter Try.func5, Try.ntmps5
  go_upto_region 1 with (fail)
  rw [← hq, ← HW1.out]
  clear HW1
  by_cases hbig : 70 < T.place.length ∨ 70 < T.spare.length
  · have hlaid := (laid_calls w1)
    have hfin2 : ∀ w2, Below w1.heap.size w1 w2 → Post (.returned (.bool true)) w2 := fun w2 h => HF.out _ (HA.out.1.trans (h.mono HA.out.1.size))
    have HL := Lib.hid (⟨hlaid, hfin2⟩ : _ ∧ _)
    clear hlaid hfin2
    by_cases h1 : 70 < T.place.length
    · have eg : decide ((70 : Int) < (T.place.length : Int)) = true := by simp; omega
      clear hbig hq
      go_wp2_with fail
      refine HL.out.1.mono ?_
      rintro e w2 ⟨rfl, hb2⟩
      have HB2 := Lib.hid (HL.out.2 _ hb2)
      clear hb2
      go_wp2_with fail
      exact HB2.out
    · have h2 : 70 < T.spare.length := by omega
      have eg : decide ((70 : Int) < (T.place.length : Int)) = false := by simp; omega
      have eg2 : decide ((70 : Int) < (T.spare.length : Int)) = true := by simp; omega
      clear hbig hq
      go_wp2_with fail
      refine HL.out.1.mono ?_
      rintro e w2 ⟨rfl, hb2⟩
      have HB2 := Lib.hid (HL.out.2 _ hb2)
      clear hb2
      go_wp2_with fail
      exact HB2.out
  have h1 : ¬ 70 < T.place.length := by omega
  have h2 : ¬ 70 < T.spare.length := by omega
  have eg : decide ((70 : Int) < (T.place.length : Int)) = false := by simp; omega
  have eg2 : decide ((70 : Int) < (T.spare.length : Int)) = false := by simp; omega
  have HL := Lib.hid (⟨h1, h2⟩ : _ ∧ _)
  clear hbig hq
  go_upto_region 3 with (fail)
  clear h1 h2 eg eg2 c1 c2 hlq
  go_wp2_with fail
  refine HA.out.2.2.2.1.mono ?_
  rintro e w2 ⟨rfl, hb2⟩
  obtain ⟨r, hr⟩ : ∃ r, r = w2.heap.size := ⟨_, rfl⟩
  obtain ⟨w3, hw3⟩ : ∃ w3, w3 = w2.alloc (.cells #[.int .i64 3, .int .i64 b, .int .i64 4, .int .i64 256] 28) := ⟨_, rfl⟩
  have hb13 : Below w1.heap.size w1 w3 := by rw [hw3]; exact hb2.alloc hb2.size _
  have hG3 : w3.heap[r]? = some (.cells #[.int .i64 3, .int .i64 b, .int .i64 4, .int .i64 256] 28 (0, 0)) := by rw [hw3]; exact heap_is hr
  have hQ3 := heap_keep hb13 HA.out.2.1
  have hT3 := HA.out.2.2.1.below hb13
  have hb3 := HA.out.1.trans (hb13.mono HA.out.1.size)
  have HX := Lib.hid (⟨hb3, hQ3, hG3, hT3⟩ : _ ∧ _ ∧ _ ∧ _)
  unfold Tb.cells at hQ3
  have kq0 : ∀ w', Below w3.heap.size w3 w' → w'.cell? ⟨q, 0, none⟩ = some (.int .u32 T.seq) := fun w' h => cells_at (heap_keep h hQ3) 0 _ rfl
  have kq1 : ∀ w', Below w3.heap.size w3 w' → w'.cell? ⟨q, 1, none⟩ = some (.slice ap T.place.length kp) := fun w' h => cells_at (heap_keep h hQ3) 1 _ rfl
  have kq2 : ∀ w', Below w3.heap.size w3 w' → w'.cell? ⟨q, 2, none⟩ = some (.slice ax T.spare.length kx) := fun w' h => cells_at (heap_keep h hQ3) 2 _ rfl
  have kq3 : ∀ w', Below w3.heap.size w3 w' → w'.cell? ⟨q, 3, none⟩ = some (.int .i64 T.t0) := fun w' h => cells_at (heap_keep h hQ3) 3 _ rfl
  have kq4 : ∀ w', Below w3.heap.size w3 w' → w'.cell? ⟨q, 4, none⟩ = some (.int .i64 T.t1) := fun w' h => cells_at (heap_keep h hQ3) 4 _ rfl
  have kr1 : ∀ w', Below w3.heap.size w3 w' → w'.cell? ⟨r, 1, none⟩ = some (.int .i64 b) := fun w' h => cells_at (heap_keep h hG3) 1 _ rfl
  have hlq := heap_lt hQ3
  have hlr := heap_lt hG3
  have HW3 := Lib.hid hw3
  clear hb2 hw3 hb13 hG3 hQ3 hT3 hb3
  go_upto_region 4 with (fail)
  rw [← hr, ← HW3.out]
  clear hr HW3
  (refine wp_region_mix [0, 2, 3, 1, 4, 5] [(true, false), (true, true), (true, false), (false, true), (false, false), (true, true)] [0, 1, 0, 4, 15, 31] (fun w' => Below w3.heap.size w3 w') (by kernel_rfl) (by kernel_rfl) ?_ ?_; rotate_left; simp only [pickL, List.map_cons, List.map_nil, List.getD_cons_succ, List.getD_cons_zero])
  rotate_left
  focus exact (Below.refl _ _).drew
  (repeat (first | (refine mix_pure (fun hne K hK => ?_); go_simp; refine hK _ ?_; clear hK K hne) | (refine mix_load ?_ (fun K hK => ?_); (focus (first | rfl | (go_simp; done))); apply Exists.intro; apply And.intro; (focus (intro w' hC; go_simp; exact rfl)); go_simp; refine hK _ ?_; clear hK K) | (refine mix_skip ?_ (fun K hK => ?_); (focus (first | rfl | (go_simp; done))); go_simp; refine hK _ ?_; clear hK K)))
  (refine mix_one (by first | rfl | (go_simp; done)) (fun R hR hX => ?_))
  have hof := of_calls T _ _ w3.drew (HX.out.2.2.2.below (Below.refl _ _).drew)
  unfold tabV Tb.cells at hof
  have HOF := Lib.hid hof
  clear hof
  go_wp2_with fail
  refine HOF.out.mono ?_
  rintro e w4 ⟨v4, rfl, hr4, hb4⟩
  have hb34 : Below w3.heap.size w3 w4 := (Below.refl _ _).drew.trans (hb4.mono (Nat.le_refl _))
  have hck := rtcheck_calls T.r v4 b w4 hr4 (by have := HA.out.2.2.2.2.1.2; omega) (by have := HL.out.1; show T.place.length ≤ 1000; omega) (by have := HL.out.2; show T.spare.length ≤ 1000; omega) (by show T.tabs.length ≤ 1000; simp [Tb.tabs])
  rw [Tb.r_err] at hck
  obtain ⟨E, hE⟩ : ∃ E, E = T.err b := ⟨_, rfl⟩
  rw [← hE] at hck
  obtain ⟨va1, va2, va3, hva, -⟩ := hr4.ex
  subst hva
  unfold RTb.cells at hck ⊢
  have HCK := Lib.hid (⟨hck, hb34⟩ : _ ∧ _)
  have HE := Lib.hid hE
  clear hck hE hr4 hb4 HOF
  go_wp2_with fail
  refine hR _ _ rfl ⟨_, hb34, fun _ => rfl, ?_⟩
  clear hR hX R hb34
  (refine mix_one (by first | rfl | (go_simp; done)) (fun R hR hX => ?_))
  go_wp2_with fail
  refine HCK.out.1.mono ?_
  rintro e w5 ⟨rfl, hb5⟩
  have hb35 := HCK.out.2.trans (hb5.mono HCK.out.2.size)
  have HB5 := Lib.hid hb35
  clear hb5 hb35 HCK
  go_wp2_with fail
  ((try simp only [wpList]); refine hR _ _ rfl ⟨fun w' => w' = _, rfl, (fun h => by cases h), ?_⟩; clear hR hX R)
  (repeat (first | (refine mix_pure (fun hne K hK => ?_); go_simp; refine hK _ ?_; clear hK K hne) | (refine mix_load ?_ (fun K hK => ?_); (focus (first | rfl | (go_simp; done))); go_simp; refine hK _ ?_; clear hK K) | (refine mix_skip ?_ (fun K hK => ?_); (focus (first | rfl | (go_simp; done))); go_simp; refine hK _ ?_; clear hK K)))
  refine mix_done ?_
  clear kq0 kq1 kq2 kq3 kq4 kr1 hlq hlr
  have hQ5 := heap_keep HB5.out HX.out.2.1
  have hG5 := heap_keep HB5.out HX.out.2.2.1
  have hT5 := HX.out.2.2.2.below HB5.out
  have hB5 := HX.out.1.trans (HB5.out.mono HX.out.1.size)
  have henc := encode_calls 3 b 4 256 T _ _ w5 hT5 HA.out.2.2.2.2.2 (by have := HL.out.1; omega) (by have := HL.out.2; omega)
  rw [show geoV ((3 : Nat) : Int) ((b : Nat) : Int) ((4 : Nat) : Int) ((256 : Nat) : Int) = .agg #[.int .i64 3, .int .i64 b, .int .i64 4, .int .i64 256] from rfl] at henc
  unfold tabV Tb.cells at henc
  have HENC := Lib.hid (⟨henc, hB5, hQ5, hG5, hT5⟩ : _ ∧ _ ∧ _ ∧ _ ∧ _)
  unfold Tb.cells at hQ5
  have q0 := cells_at hQ5 0 _ rfl
  have q1 := cells_at hQ5 1 _ rfl
  have q2 := cells_at hQ5 2 _ rfl
  have q3 := cells_at hQ5 3 _ rfl
  have q4 := cells_at hQ5 4 _ rfl
  have g0 := cells_at hG5 0 _ rfl
  have g1 := cells_at hG5 1 _ rfl
  have g2 := cells_at hG5 2 _ rfl
  have g3 := cells_at hG5 3 _ rfl
  simp only [List.getElem_toArray, List.getElem_cons_succ, List.getElem_cons_zero] at q0 q1 q2 q3 q4 g0 g1 g2 g3
  have hlq := heap_lt hQ5
  have hlr := heap_lt hG5
  clear hQ5 hG5 hT5 hB5 henc
  go_wp2_with fail
  refine HENC.out.1.mono ?_
  rintro e w6 ⟨hb6, hcase⟩
  have hB6 := HENC.out.2.1.trans (hb6.mono HENC.out.2.1.size)
  have hQ6 := heap_keep hb6 HENC.out.2.2.1
  have hG6 := heap_keep hb6 HENC.out.2.2.2.1
  have hT6 := HENC.out.2.2.2.2.below hb6
  have H6 := Lib.hid (⟨hB6, hQ6, hG6, hT6⟩ : _ ∧ _ ∧ _ ∧ _)
  clear q0 q1 q2 q3 q4 g0 g1 g2 g3 hlq hlr
  clear HENC hB6 hQ6 hG6 hT6 HB5 HX hb6
  rcases hcase with ⟨hok, x, rfl, hown⟩ | ⟨hnok, rfl⟩
  · have hE0 : E = 0 := HE.out.trans (if_pos hok)
    clear HE
    subst hE0
    have hx6 : RB w6 x (encB T) := RV.own hown
    obtain ⟨ax6, kx6, rfl, -, -⟩ := hx6.form
    have HX6 := Lib.hid hx6
    clear hown hx6
    go_upto_region 6 with (fail)
    go_wp2_with fail
    refine (laid_calls w6).mono ?_
    rintro e w7 ⟨rfl, hb7⟩
    have hB7 := H6.out.1.trans (hb7.mono H6.out.1.size)
    have hQ7 := heap_keep hb7 H6.out.2.1
    have hG7 := heap_keep hb7 H6.out.2.2.1
    have hT7 := H6.out.2.2.2.below hb7
    have hck := tcheck_calls 3 b 4 256 T _ _ w7 hT7 HA.out.2.2.2.2.2 (by have := HL.out.1; omega) (by have := HL.out.2; omega)
    rw [show geoV ((3 : Nat) : Int) ((b : Nat) : Int) ((4 : Nat) : Int) ((256 : Nat) : Int) = .agg #[.int .i64 3, .int .i64 b, .int .i64 4, .int .i64 256] from rfl] at hck
    unfold tabV Tb.cells TCheckEnds at hck
    rw [show T.err b = 0 from if_pos hok] at hck
    have hx7 := HX6.out.below hb7
    have H7 := Lib.hid (⟨hB7, hQ7, hG7, hT7, hck, hx7, hok⟩ : _ ∧ _ ∧ _ ∧ _ ∧ _ ∧ _ ∧ _)
    unfold Tb.cells at hQ7
    have q0 := cells_at hQ7 0 _ rfl
    have q1 := cells_at hQ7 1 _ rfl
    have q2 := cells_at hQ7 2 _ rfl
    have q3 := cells_at hQ7 3 _ rfl
    have q4 := cells_at hQ7 4 _ rfl
    have g0 := cells_at hG7 0 _ rfl
    have g1 := cells_at hG7 1 _ rfl
    have g2 := cells_at hG7 2 _ rfl
    have g3 := cells_at hG7 3 _ rfl
    simp only [List.getElem_toArray, List.getElem_cons_succ, List.getElem_cons_zero] at q0 q1 q2 q3 q4 g0 g1 g2 g3
    have hlq := heap_lt hQ7
    have hlr := heap_lt hG7
    clear hB7 hQ7 hG7 hT7 hck hb7 H6 HX6 hok hx7
    go_wp2_with fail
    refine H7.out.2.2.2.2.1.mono ?_
    rintro e w8 ⟨rfl, hb8⟩
    have hB8 := H7.out.1.trans (hb8.mono H7.out.1.size)
    have hQ8 := heap_keep hb8 H7.out.2.1
    have hG8 := heap_keep hb8 H7.out.2.2.1
    have hT8 := H7.out.2.2.2.1.below hb8
    have hx8 := H7.out.2.2.2.2.2.1.below hb8
    have H8 := Lib.hid (⟨hB8, hT8, hx8, H7.out.2.2.2.2.2.2⟩ : _ ∧ _ ∧ _ ∧ _)
    clear q0 q1 q2 q3 q4 g0 g1 g2 g3 hlq hlr
    unfold Tb.cells at hQ8
    have q0 := cells_at hQ8 0 _ rfl
    have q1 := cells_at hQ8 1 _ rfl
    have q2 := cells_at hQ8 2 _ rfl
    have q3 := cells_at hQ8 3 _ rfl
    have q4 := cells_at hQ8 4 _ rfl
    have g0 := cells_at hG8 0 _ rfl
    have g1 := cells_at hG8 1 _ rfl
    have g2 := cells_at hG8 2 _ rfl
    have g3 := cells_at hG8 3 _ rfl
    simp only [List.getElem_toArray, List.getElem_cons_succ, List.getElem_cons_zero] at q0 q1 q2 q3 q4 g0 g1 g2 g3
    have hlq := heap_lt hQ8
    have hlr := heap_lt hG8
    have hof := of_calls T _ _ w8 hT8
    unfold tabV Tb.cells at hof
    have HOF := Lib.hid hof
    clear hof hB8 hQ8 hG8 hT8 hx8 hb8 H7
    go_wp2_with fail
    refine HOF.out.mono ?_
    rintro e w9 ⟨v9, rfl, hr9, hb9⟩
    have hre := rencode_calls T v9 b w9 hr9 H8.out.2.2.2 HA.out.2.2.2.2.1.2 H8.out.2.1.seq
    have hB9 := H8.out.1.trans (hb9.mono H8.out.1.size)
    have hx9 := H8.out.2.2.1.below hb9
    obtain ⟨va1, va2, va3, hva, -⟩ := hr9.ex
    subst hva
    unfold RTb.cells at hre ⊢
    have H9 := Lib.hid (⟨hre, hB9, hx9⟩ : _ ∧ _ ∧ _)
    clear hre hB9 hx9 hr9 hb9 HOF q0 q1 q2 q3 q4 g0 g1 g2 g3 hlq hlr
    go_wp2_with fail
    refine H9.out.1.mono ?_
    rintro e w10 ⟨y, rfl, hown, hb10⟩
    have hy : RB w10 y (encB T) := RV.own hown
    have hx10 := H9.out.2.2.below hb10
    have hB10 := H9.out.2.1.trans (hb10.mono H9.out.2.1.size)
    obtain ⟨ay, ky, rfl, -, -⟩ := hy.form
    have hsm := rsame_calls _ _ _ _ w10 hx10 hy
    rw [decide_eq_true rfl] at hsm
    have HS := Lib.hid (⟨hsm, HF.out _ hB10⟩ : _ ∧ _)
    clear hsm hB10 hx10 hy hown hb10 H9
    go_wp2_with fail
    refine HS.out.1.mono ?_
    rintro e w11 ⟨rfl, rfl⟩
    go_wp2_with fail
    exact HS.out.2
  · have hE0 : E = 62 := HE.out.trans (if_neg hnok)
    clear HE
    subst hE0
    skip
    go_upto_region 6 with (fail)
    go_wp2_with fail
    refine (laid_calls w6).mono ?_
    rintro e w7 ⟨rfl, hb7⟩
    have hB7 := H6.out.1.trans (hb7.mono H6.out.1.size)
    have hQ7 := heap_keep hb7 H6.out.2.1
    have hG7 := heap_keep hb7 H6.out.2.2.1
    have hT7 := H6.out.2.2.2.below hb7
    have hck := tcheck_calls 3 b 4 256 T _ _ w7 hT7 HA.out.2.2.2.2.2 (by have := HL.out.1; omega) (by have := HL.out.2; omega)
    rw [show geoV ((3 : Nat) : Int) ((b : Nat) : Int) ((4 : Nat) : Int) ((256 : Nat) : Int) = .agg #[.int .i64 3, .int .i64 b, .int .i64 4, .int .i64 256] from rfl] at hck
    unfold tabV Tb.cells TCheckEnds at hck
    rw [show T.err b = 62 from if_neg hnok] at hck
    skip
    have H7 := Lib.hid (⟨hB7, hQ7, hG7, hT7, hck⟩ : _ ∧ _ ∧ _ ∧ _ ∧ _)
    unfold Tb.cells at hQ7
    have q0 := cells_at hQ7 0 _ rfl
    have q1 := cells_at hQ7 1 _ rfl
    have q2 := cells_at hQ7 2 _ rfl
    have q3 := cells_at hQ7 3 _ rfl
    have q4 := cells_at hQ7 4 _ rfl
    have g0 := cells_at hG7 0 _ rfl
    have g1 := cells_at hG7 1 _ rfl
    have g2 := cells_at hG7 2 _ rfl
    have g3 := cells_at hG7 3 _ rfl
    simp only [List.getElem_toArray, List.getElem_cons_succ, List.getElem_cons_zero] at q0 q1 q2 q3 q4 g0 g1 g2 g3
    have hlq := heap_lt hQ7
    have hlr := heap_lt hG7
    clear hB7 hQ7 hG7 hT7 hck hb7 H6 hnok
    go_wp2_with fail
    refine H7.out.2.2.2.2.mono ?_
    rintro e w8 ⟨rfl, hb8⟩
    have hB8 := H7.out.1.trans (hb8.mono H7.out.1.size)
    have hQ8 := heap_keep hb8 H7.out.2.1
    have hG8 := heap_keep hb8 H7.out.2.2.1
    have hT8 := H7.out.2.2.2.1.below hb8
    have HE := Lib.hid (HF.out _ hB8)
    clear q0 q1 q2 q3 q4 g0 g1 g2 g3 hlq hlr hB8 hQ8 hG8 hT8 H7 hb8
    go_wp2_with fail
    exact HE.out

set_option maxRecDepth 100000 in
theorem walk {H : Type} (enc : TypeId × Value → H) (W : World) (base : Nat) (v0 : Value) (d0 : DataW H) (p0 : List MemPlace)
    (hv0 : Value.okWide Try.prog W .any base 57 v0) (h0 : DataW.Trod enc Try.prog W 0 (fun _ => true) true 57 v0 d0 p0)
    (v1 : Value) (d1 : DataW H) (p1 : List MemPlace) (hv1 : Value.okWide Try.prog W .any base 3 v1) (h1 : DataW.Trod enc Try.prog W 0 (fun _ => true) true 3 v1 d1 p1)
    (_hsz : (DataW.weightsEach Try.prog [57, 3] [d0, d1]).all (· ≤ reachBytes) = true) :
    Calls Try.prog 5 #[v0, v1] W fun e W' => e = .returned (.bool true) ∧ Below W.heap.size W W' := by
  obtain ⟨T, vp, vs, rfl, hT⟩ := open_table h0 hv0
  obtain ⟨n, rfl, -, -, -⟩ := open_int Try.underlying3 hv1 h1
  exact law n T vp vs W hT
end Go.Proofs.Ytogejjbclimjjaa.lawRemapChecks
