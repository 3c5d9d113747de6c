/- RemapDecodes: the walk. -/
--only r2
import Derived.Test.YtogejjbclimjjaaTabLaid
import Derived.Test.YtogejjbclimjjaaRDecode
import Derived.Test.YtogejjbclimjjaaOpenI
import Derived.ChangeSlices
namespace Go.Proofs.Ytogejjbclimjjaa.lawRemapDecodes
set_option linter.unusedVariables false
set_option linter.unusedSimpArgs false
open Go.RowKit Go.ChangeShapes Go.WideShapes

/-- a slice of bytes that came in -/
theorem open_bytes {H : Type} {enc : TypeId × Value → H} {W : World} {v : Value} {d : DataW H} {p : List MemPlace}
    (h : DataW.Trod enc Try.prog W 0 (fun _ => true) true 23 v d p) (hv : ∃ a n c, v = .slice a n c) : ∃ l : List UInt8, RB W v l := by
  obtain ⟨fuel, hf⟩ := h
  obtain ⟨a0, n0, c0, rfl⟩ := hv
  rcases open_ints Try.underlying23 Try.underlying5 (by kernel_rfl) hf with ⟨hcs, _⟩ | ⟨x, len, cap, zs, hcs, _, hl, hm, hz, _, hcell, hwz⟩
  · simp [Value.cells] at hcs
    obtain ⟨rfl, rfl, rfl⟩ := hcs
    exact ⟨[], RB.nil W⟩
  · simp [Value.cells] at hcs
    obtain ⟨rfl, rfl, rfl⟩ := hcs
    obtain ⟨l, rfl⟩ := bytes_of_ints hwz
    have hlc : l.length = c0 := by simpa using hz
    refine ⟨l.take n0, some x, c0, by simp; omega, by simp; omega, hm, fun h => (by cases h), ?_⟩
    by_cases h0 : n0 = 0
    · left; subst h0; simp
    · right
      obtain ⟨b, off, spot⟩ := x
      have hc := hcell 0 (by simp; omega)
      have hspot : spot = none := by simpa [Addr.add] using World.cell?_spot hc
      subst hspot
      refine ⟨b, off, rfl, fun i hi => ?_⟩
      have hi' : i < l.length := by simp at hi; omega
      have := hcell i (by simpa using hi')
      rw [add_plain] at this
      rw [this]
      simp [List.getD, hi', u8v]

/-- the tables are the same -/
theorem same_res (n : Nat) (l : List UInt8) : sameR (dRes n l).r (rRes n l) = true := by
  unfold dRes rRes
  by_cases h : dGood n l
  · rw [if_pos h, if_pos h]; simp [sameR]
  · rw [if_neg h, if_neg h]; rfl

set_option maxRecDepth 100000 in
set_option maxHeartbeats 1000000 in
theorem law (blocks : Int) (v : Value) (l : List UInt8) (w : World) (hv : RB w v l) :
    Calls Try.prog 7 #[v, .int .i64 blocks] w fun e w' => e = .returned (.bool true) ∧ Below w.heap.size w w' := by
  have hfin : ∀ w', Below w.heap.size w w' → (fun e w' => e = Ending.returned (.bool true) ∧ Below w.heap.size w w') (.returned (.bool true)) w' := fun w' hb => ⟨rfl, hb⟩
  generalize (fun (e : Ending) (w' : World) => e = Ending.returned (.bool true) ∧ Below w.heap.size w w') = Post at hfin ⊢
  have HF := Lib.hid hfin
  obtain ⟨a, c, rfl, hl1, hl2⟩ := hv.form
  obtain ⟨b0, hb0, -, hsh⟩ := RI.shape2 blocks w
  obtain ⟨b, hb⟩ : ∃ b, b = 16 + b0 := ⟨_, rfl⟩
  rw [← hb] at hsh
  have hb16 : 16 ≤ b ∧ b ≤ 64 := by omega
  have hg : geoOk (3 : Nat) (b : Nat) (4 : Nat) (256 : Nat) := by unfold geoOk; omega
  rw [show geoV ((3 : Nat) : Int) ((b : Nat) : Int) ((4 : Nat) : Int) ((256 : Nat) : Int) = .agg #[.int .i64 3, .int .i64 b, .int .i64 4, .int .i64 256] from rfl] at hsh
  have HA := Lib.hid (⟨hv, hsh, hb16, hg⟩ : _ ∧ _ ∧ _ ∧ _)
  clear hv hsh hb16 hg hb hb0 hfin
  go_enter Try.func7, Try.ntmps7
  go_upto_region 1 with (fail)
  by_cases hbig : 600 < l.length
  · have eg : decide ((600 : Int) < (l.length : Int)) = true := by simp; omega
    clear hbig
    go_wp2_with fail
    refine (laid_calls w).mono ?_
    rintro e w2 ⟨rfl, hb2⟩
    have HB2 := Lib.hid (HF.out _ hb2)
    clear hb2
    go_wp2_with fail
    exact HB2.out
  have eg : decide ((600 : Int) < (l.length : Int)) = false := by simp; omega
  have HL := Lib.hid hbig
  clear hbig
  go_upto_region 3 with (fail)
  clear eg
  go_wp2_with fail
  refine HA.out.2.1.mono ?_
  rintro e w2 ⟨rfl, hb2⟩
  obtain ⟨r, hr⟩ : ∃ r, r = w2.heap.size := ⟨_, rfl⟩
  obtain ⟨w3, hw3⟩ : ∃ w3, w3 = w2.alloc (.cells #[.int .i64 3, .int .i64 b, .int .i64 4, .int .i64 256] 28) := ⟨_, rfl⟩
  have hb3 : Below w.heap.size w w3 := by rw [hw3]; exact hb2.alloc hb2.size _
  have hG3 : w3.heap[r]? = some (.cells #[.int .i64 3, .int .i64 b, .int .i64 4, .int .i64 256] 28 (0, 0)) := by rw [hw3]; exact heap_is hr
  have g0 := cells_at hG3 0 _ rfl
  have g1 := cells_at hG3 1 _ rfl
  have g2 := cells_at hG3 2 _ rfl
  have g3 := cells_at hG3 3 _ rfl
  simp only [List.getElem_toArray, List.getElem_cons_succ, List.getElem_cons_zero] at g0 g1 g2 g3
  have hlr := heap_lt hG3
  have hdec := decode_calls _ l 3 b 4 256 w3 (HA.out.1.below hb3) HA.out.2.2.2
  rw [show geoV ((3 : Nat) : Int) ((b : Nat) : Int) ((4 : Nat) : Int) ((256 : Nat) : Int) = .agg #[.int .i64 3, .int .i64 b, .int .i64 4, .int .i64 256] from rfl] at hdec
  have HX := Lib.hid (⟨hdec, hb3, hG3⟩ : _ ∧ _ ∧ _)
  have HW3 := Lib.hid hw3
  clear hb2 hw3 hG3 hb3 hdec
  go_upto_region 4 with (fail)
  rw [← hr, ← HW3.out]
  clear hr HW3
  go_wp2_with fail
  refine HX.out.1.mono ?_
  rintro e w4 ⟨vp, vs, rfl, ⟨htab, -, -⟩, hb4⟩
  obtain ⟨T, hT⟩ : ∃ T, T = dRes b l := ⟨_, rfl⟩
  rw [← hT] at htab ⊢
  obtain ⟨ap, kp, rfl, -, -⟩ := htab.p.form
  obtain ⟨ax, kx, rfl, -, -⟩ := htab.s.form
  obtain ⟨E, hE⟩ : ∃ E, E = dErr b l := ⟨_, rfl⟩
  rw [← hE]
  obtain ⟨q, hq⟩ : ∃ q, q = w4.heap.size := ⟨_, rfl⟩
  obtain ⟨w5, hw5⟩ : ∃ w5, w5 = w4.alloc (.cells (T.cells (.slice ap T.place.length kp) (.slice ax T.spare.length kx)) 57) := ⟨_, rfl⟩
  have hb35 : Below w3.heap.size w3 w5 := by rw [hw5]; exact hb4.alloc hb4.size _
  have hQ5 : w5.heap[q]? = some (.cells (T.cells (.slice ap T.place.length kp) (.slice ax T.spare.length kx)) 57 (0, 0)) := by rw [hw5]; exact heap_is hq
  have hG5 := heap_keep hb35 HX.out.2.2
  have hT5 := htab.below (by rw [hw5]; exact (Below.refl _ _).alloc (Nat.le_refl _) _ : Below w4.heap.size w4 w5)
  have hB5 := HX.out.2.1.trans (hb35.mono HX.out.2.1.size)
  have hrd := rdecode_calls _ l b w5 (HA.out.1.below hB5) (by have := HL.out; omega) (by have := HA.out.2.2.1; omega)
  have HD := Lib.hid (⟨hrd, hB5, hQ5, hT5, hT, hE⟩ : _ ∧ _ ∧ _ ∧ _ ∧ _ ∧ _)
  clear g0 g1 g2 g3 hlr
  have g1 := cells_at hG5 1 _ rfl
  simp only [List.getElem_toArray, List.getElem_cons_succ, List.getElem_cons_zero] at g1
  have hlr := heap_lt hG5
  have HW5 := Lib.hid hw5
  clear hrd hB5 hQ5 hT5 hT hE hG5 hb35 hw5 hb4 htab HX
  unfold tabV
  unfold Tb.cells at HW5 ⊢
  go_upto_region 5 with (fail)
  rw [← hq, ← HW5.out]
  clear hq HW5
  go_wp2_with fail
  refine HD.out.1.mono ?_
  rintro e w6 ⟨x6, rfl, hr6, hb6⟩
  rw [← HD.out.2.2.2.2.2]
  obtain ⟨RT, hR0⟩ : ∃ RT, RT = rRes b l := ⟨_, rfl⟩
  rw [← hR0] at hr6
  obtain ⟨va1, va2, va3, hva, hv1, hv2, hv3⟩ := id hr6.ex
  obtain ⟨z1, y1, rfl, -, -⟩ := hv1.form
  obtain ⟨z2, y2, rfl, -, -⟩ := hv2.form
  obtain ⟨z3, y3, rfl, -, -⟩ := hv3.form
  subst hva
  obtain ⟨s, hs⟩ : ∃ s, s = w6.heap.size := ⟨_, rfl⟩
  obtain ⟨w7, hw7⟩ : ∃ w7, w7 = w6.alloc (.cells (RT.cells (.slice z1 RT.place.length y1) (.slice z2 RT.spare.length y2) (.slice z3 RT.tabs.length y3)) 60) := ⟨_, rfl⟩
  have hb57 : Below w5.heap.size w5 w7 := by rw [hw7]; exact hb6.alloc hb6.size _
  have hS7 : w7.heap[s]? = some (.cells (RT.cells (.slice z1 RT.place.length y1) (.slice z2 RT.spare.length y2) (.slice z3 RT.tabs.length y3)) 60 (0, 0)) := by rw [hw7]; exact heap_is hs
  have hQ7 := heap_keep hb57 HD.out.2.2.1
  have hT7 := HD.out.2.2.2.1.below hb57
  have hB7 := HD.out.2.1.trans (hb57.mono HD.out.2.1.size)
  have hR7 := hr6.below (by rw [hw7]; exact (Below.refl _ _).alloc (Nat.le_refl _) _ : Below w6.heap.size w6 w7)
  have hsame : sameR T.r RT = true := by rw [HD.out.2.2.2.2.1, hR0]; exact same_res b l
  have hlR : T.place.length ≤ 100000 ∧ RT.place.length ≤ 100000 := by
    have h1 : (dTab l).place.length ≤ 100000 := by show (intsOf _).length ≤ _; rw [intsOf_length]; have := HL.out; simp; omega
    rw [HD.out.2.2.2.2.1, hR0]
    unfold dRes rRes
    by_cases h : dGood b l
    · rw [if_pos h, if_pos h]; exact ⟨h1, h1⟩
    · rw [if_neg h, if_neg h]; exact ⟨Nat.zero_le _, Nat.zero_le _⟩
  have H7 := Lib.hid (⟨hS7, hQ7, hT7, hB7, hR7, hsame, hlR⟩ : _ ∧ _ ∧ _ ∧ _ ∧ _ ∧ _ ∧ _)
  have HW7 := Lib.hid hw7
  clear hv1 hv2 hv3 hS7 hQ7 hT7 hB7 hR7 hsame hlR hb57 hw7 hR0 hr6 hb6 HD g1 hlr
  unfold RTb.cells at HW7 ⊢
  go_upto_region 6 with (fail)
  rw [← hs, ← HW7.out]
  clear hs HW7
  have kq0 : ∀ w', Below w7.heap.size w7 w' → w'.cell? ⟨q, 0, none⟩ = some (.int .u32 T.seq) := fun w' h => cells_at (heap_keep h H7.out.2.1) 0 _ rfl
  have kq1 : ∀ w', Below w7.heap.size w7 w' → w'.cell? ⟨q, 1, none⟩ = some (.slice ap T.place.length kp) := fun w' h => cells_at (heap_keep h H7.out.2.1) 1 _ rfl
  have kq2 : ∀ w', Below w7.heap.size w7 w' → w'.cell? ⟨q, 2, none⟩ = some (.slice ax T.spare.length kx) := fun w' h => cells_at (heap_keep h H7.out.2.1) 2 _ rfl
  have kq3 : ∀ w', Below w7.heap.size w7 w' → w'.cell? ⟨q, 3, none⟩ = some (.int .i64 T.t0) := fun w' h => cells_at (heap_keep h H7.out.2.1) 3 _ rfl
  have kq4 : ∀ w', Below w7.heap.size w7 w' → w'.cell? ⟨q, 4, none⟩ = some (.int .i64 T.t1) := fun w' h => cells_at (heap_keep h H7.out.2.1) 4 _ rfl
  have ks0 : ∀ w', Below w7.heap.size w7 w' → w'.cell? ⟨s, 0, none⟩ = some (.int .i64 RT.seq) := fun w' h => cells_at (heap_keep h H7.out.1) 0 _ rfl
  have ks1 : ∀ w', Below w7.heap.size w7 w' → w'.cell? ⟨s, 1, none⟩ = some (.slice z1 RT.place.length y1) := fun w' h => cells_at (heap_keep h H7.out.1) 1 _ rfl
  have ks2 : ∀ w', Below w7.heap.size w7 w' → w'.cell? ⟨s, 2, none⟩ = some (.slice z2 RT.spare.length y2) := fun w' h => cells_at (heap_keep h H7.out.1) 2 _ rfl
  have ks3 : ∀ w', Below w7.heap.size w7 w' → w'.cell? ⟨s, 3, none⟩ = some (.slice z3 RT.tabs.length y3) := fun w' h => cells_at (heap_keep h H7.out.1) 3 _ rfl
  have hlq := heap_lt H7.out.2.1
  have hls := heap_lt H7.out.1
  (refine wp_region_mix [0, 1, 2, 3, 4, 5, 6, 7, 9, 8, 10, 11, 12] [(false, false), (true, true), (true, true), (true, true), (true, true), (true, true), (true, true), (true, false), (true, false), (false, true), (false, false), (true, true), (true, true)] [0, 1, 3, 3, 15, 31, 63, 127, 255, 127, 1023, 2047, 4095] (fun w' => Below w7.heap.size w7 w') (by kernel_rfl) (by kernel_rfl) ?_ ?_; rotate_left; simp only [pickL, List.map_cons, List.map_nil, List.getD_cons_succ, List.getD_cons_zero])
  rotate_left
  focus exact (Below.refl _ _).drew
  (refine mix_one (by first | rfl | (go_simp; done)) (fun R hR hX => ?_))
  go_wp2_with fail
  refine (laid_calls _).mono ?_
  rintro e w8 ⟨rfl, hb8⟩
  have hb78 : Below w7.heap.size w7 w8 := (Below.refl _ _).drew.trans (hb8.mono (Nat.le_refl _))
  have HB8 := Lib.hid hb78
  go_wp2_with fail
  refine hR _ _ rfl ⟨_, hb78, fun _ => rfl, ?_⟩
  clear hR hX R hb8 hb78
  (repeat (first | (refine mix_pure (fun hne K hK => ?_); go_simp; refine hK _ ?_; clear hK K hne) | (refine mix_load ?_ (fun K hK => ?_); (focus (first | rfl | (go_simp; done))); apply Exists.intro; apply And.intro; (focus (intro w' hC; go_simp; exact rfl)); go_simp; refine hK _ ?_; clear hK K) | (refine mix_skip ?_ (fun K hK => ?_); (focus (first | rfl | (go_simp; done))); go_simp; refine hK _ ?_; clear hK K)))
  clear kq0 kq1 kq2 kq3 kq4 ks0 ks1 ks2 ks3 hlq hls
  (refine mix_one (by first | rfl | (go_simp; done)) (fun R hR hX => ?_))
  have hof := of_calls T _ _ w8 (H7.out.2.2.1.below HB8.out)
  unfold tabV Tb.cells at hof
  have HOF := Lib.hid hof
  clear hof
  go_wp2_with fail
  refine HOF.out.mono ?_
  rintro e w9 ⟨v9, rfl, hr9, hb9⟩
  have hb79 := HB8.out.trans (hb9.mono HB8.out.size)
  have hsm := tsame_calls T.r RT v9 _ w9 hr9 (H7.out.2.2.2.2.1.below hb79) H7.out.2.2.2.2.2.2.1 H7.out.2.2.2.2.2.2.2
  rw [H7.out.2.2.2.2.2.1] at hsm
  obtain ⟨va1, va2, va3, hva, -⟩ := hr9.ex
  subst hva
  unfold RTb.cells at hsm ⊢
  have HSM := Lib.hid (⟨hsm, hb79⟩ : _ ∧ _)
  clear hsm hr9 hb9 HOF
  go_wp2_with fail
  refine hR _ _ rfl ⟨_, hb79, fun _ => rfl, ?_⟩
  clear hR hX R hb79
  (repeat (first | (refine mix_pure (fun hne K hK => ?_); go_simp; refine hK _ ?_; clear hK K hne) | (refine mix_load ?_ (fun K hK => ?_); (focus (first | rfl | (go_simp; done))); apply Exists.intro; apply And.intro; (focus (intro w' hC; go_simp; exact rfl)); go_simp; refine hK _ ?_; clear hK K) | (refine mix_skip ?_ (fun K hK => ?_); (focus (first | rfl | (go_simp; done))); go_simp; refine hK _ ?_; clear hK K)))
  (refine mix_one (by first | rfl | (go_simp; done)) (fun R hR hX => ?_))
  go_wp2_with fail
  refine HSM.out.1.mono ?_
  rintro e w10 ⟨rfl, hb10⟩
  have hB := H7.out.2.2.2.1.trans ((HSM.out.2.trans (hb10.mono HSM.out.2.size)).mono H7.out.2.2.2.1.size)
  have HE := Lib.hid (HF.out _ hB)
  clear hB hb10 HSM
  go_wp2_with fail
  ((try simp only [wpList]); refine hR _ _ rfl ⟨fun w' => w' = _, rfl, (fun h => by cases h), ?_⟩; clear hR hX R)
  (repeat (first | (refine mix_pure (fun hne K hK => ?_); go_simp; refine hK _ ?_; clear hK K hne) | (refine mix_load ?_ (fun K hK => ?_); (focus (first | rfl | (go_simp; done))); go_simp; refine hK _ ?_; clear hK K) | (refine mix_skip ?_ (fun K hK => ?_); (focus (first | rfl | (go_simp; done))); go_simp; refine hK _ ?_; clear hK K)))
  refine mix_done ?_
  go_wp2_with fail
  exact HE.out

set_option maxRecDepth 100000 in
theorem walk {H : Type} (enc : TypeId × Value → H) (W : World) (base : Nat) (v0 : Value) (d0 : DataW H) (p0 : List MemPlace)
    (hv0 : Value.okWide Try.prog W .any base 23 v0) (h0 : DataW.Trod enc Try.prog W 0 (fun _ => true) true 23 v0 d0 p0)
    (v1 : Value) (d1 : DataW H) (p1 : List MemPlace) (hv1 : Value.okWide Try.prog W .any base 3 v1) (h1 : DataW.Trod enc Try.prog W 0 (fun _ => true) true 3 v1 d1 p1)
    (_hsz : (DataW.weightsEach Try.prog [23, 3] [d0, d1]).all (· ≤ reachBytes) = true) :
    Calls Try.prog 7 #[v0, v1] W fun e W' => e = .returned (.bool true) ∧ Below W.heap.size W W' := by
  obtain ⟨l, hl⟩ := open_bytes h0 (okWide_slice Try.underlying23 hv0)
  obtain ⟨n, rfl, -, -, -⟩ := open_int Try.underlying3 hv1 h1
  exact law n v0 l W hl
end Go.Proofs.Ytogejjbclimjjaa.lawRemapDecodes
