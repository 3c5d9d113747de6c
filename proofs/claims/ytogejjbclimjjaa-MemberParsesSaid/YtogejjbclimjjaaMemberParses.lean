/- MemberParses: the walk. -/
--only r2
import Derived.Test.YtogejjbclimjjaaMsLaw
import Derived.Test.YtogejjbclimjjaaMsFirst
import Derived.Test.YtogejjbclimjjaaMsRPage
import Derived.Test.YtogejjbclimjjaaMsRParse
import Derived.Test.YtogejjbclimjjaaRef
import Derived.Test.YtogejjbclimjjaaOpenI
import Derived.Test.YtogejjbclimjjaaCellRow
import Derived.OpenShut
namespace Go.Proofs.Ytogejjbclimjjaa.lawMemberParses
set_option linter.unusedVariables false
set_option linter.unusedSimpArgs false
open Go.RowKit Go.ChangeShapes Go.WideShapes Go.Deep

theorem open_rb {H : Type} {enc : TypeId × Value → H} {W : World} {v : Value} {fuel : Nat} {x : DataW H × List MemPlace}
    (hf : DataW.trod enc Try.prog W 0 (fun _ => true) true fuel 23 [v] = some x) : ∃ l : List UInt8, RB W v l := by
  rcases open_ints Try.underlying23 Try.underlying5 (by kernel_rfl) hf with ⟨hcs, _⟩ | ⟨x, len, cap, zs, hcs, _, hl, hm, hz, _, hcell, hwz⟩
  · simp only [List.cons.injEq, and_true] at hcs
    subst hcs
    exact ⟨[], RB.nil W⟩
  · simp only [List.cons.injEq, and_true] at hcs
    subst hcs
    obtain ⟨l, rfl⟩ := bytes_of_ints hwz
    have hlc : l.length = cap := by simpa using hz
    refine ⟨l.take len, some x, cap, by simp; omega, by simp; omega, hm, fun h => (by cases h), ?_⟩
    by_cases h0 : len = 0
    · left; subst h0; simp
    · right
      obtain ⟨b, off, spot⟩ := x
      have hc := hcell 0 (by simp; omega)
      have hspot : spot = none := by simpa [Addr.add] using World.cell?_spot hc
      subst hspot
      refine ⟨b, off, rfl, fun i hi => ?_⟩
      have hi' : i < l.length := by simp at hi; omega
      have := hcell i (by simpa using hi')
      rw [add_plain] at this
      rw [this]
      simp [List.getD, hi', u8v]

set_option maxRecDepth 100000 in
theorem open_mparses {H : Type} {enc : TypeId × Value → H} {W : World} {v : Value} {d : DataW H} {p : List MemPlace} {base : Nat}
    (h : DataW.Trod enc Try.prog W 0 (fun _ => true) true 25 v d p) (hv : Value.okWide Try.prog W .any base 25 v) :
    ∃ (chips other : Int) (va vc : Value) (rs : Bool) (xs : List Int) (cs : List UInt8), v = .agg #[.int .i64 chips, .int .i64 other, va, vc, .bool rs] ∧ RI W va xs ∧ RB W vc cs := by
  obtain ⟨cs, rfl, hs⟩ := okWide_struct Try.underlying25 hv
  obtain ⟨fuel, hf⟩ := h
  obtain ⟨ys, n, rfl, hy, hlen, hyl, hff⟩ := DataW.trod_struct Try.underlying25 hf
  have hsz : cs.size = 5 := hs.trans (by kernel_rfl)
  obtain ⟨cl⟩ := cs
  match cl, hsz with
  | [x0, x1, x2, x3, x4], _ =>
    obtain ⟨y0, y1, y2, y3, y4, rfl⟩ : ∃ y0 y1 y2 y3 y4, ys = [y0, y1, y2, y3, y4] := by
      match ys, hyl with
      | [y0, y1, y2, y3, y4], _ => exact ⟨y0, y1, y2, y3, y4, rfl⟩
    have t0 : DataW.trod enc Try.prog W 0 (fun _ => true) true n 3 (List.take (Try.prog.cellsOf 3) [x0, x1, x2, x3, x4]) = some y0 := hff 0 _ rfl
    have t1 : DataW.trod enc Try.prog W 0 (fun _ => true) true n 3 (List.take (Try.prog.cellsOf 3) [x1, x2, x3, x4]) = some y1 := hff 1 _ rfl
    have t2 : DataW.trod enc Try.prog W 0 (fun _ => true) true n 22 (List.take (Try.prog.cellsOf 22) [x2, x3, x4]) = some y2 := hff 2 _ rfl
    have t3 : DataW.trod enc Try.prog W 0 (fun _ => true) true n 23 (List.take (Try.prog.cellsOf 23) [x3, x4]) = some y3 := hff 3 _ rfl
    have t4 : DataW.trod enc Try.prog W 0 (fun _ => true) true n 4 (List.take (Try.prog.cellsOf 4) [x4]) = some y4 := hff 4 _ rfl
    rw [show Try.prog.cellsOf 3 = 1 by kernel_rfl] at t0 t1
    rw [show Try.prog.cellsOf 22 = 1 by kernel_rfl] at t2
    rw [show Try.prog.cellsOf 23 = 1 by kernel_rfl] at t3
    rw [show Try.prog.cellsOf 4 = 1 by kernel_rfl] at t4
    obtain ⟨z0, f0, _, w0⟩ := DataW.trod_int Try.underlying3 t0
    obtain ⟨z1, f1, _, w1⟩ := DataW.trod_int Try.underlying3 t1
    obtain ⟨xs, h1⟩ := open_ri t2
    obtain ⟨bs, h2⟩ := open_rb t3
    obtain ⟨z4, f4, _⟩ := DataW.trod_bool Try.underlying4 t4
    simp only [List.take, List.cons.injEq, and_true] at f0 f1 f4
    subst f0 f1 f4
    exact ⟨z0, z1, x2, x3, z4, xs, bs, rfl, h1, h2⟩

theorem one_ok (n : Nat) (hn : n ≤ 16) : (Ms.one n).Ok n 20 := by
  have : Ms.one n = Ms.swap n n 1 255 0 := (if_neg (by omega)).symm
  rw [this]
  exact swap_ok (Nat.le_refl _) (by omega) 1 (.inl ⟨rfl, rfl⟩) (by omega)
theorem mparse_len (n b p s : Nat) (d l : List UInt8) : (mParse n b p s d l).1.chips.length ≤ 255 := by
  have h : (mSet d).chips.length ≤ 255 := by
    show (intsOf _).length ≤ 255
    rw [intsOf_length]
    have := getN_lt d 4
    simp
    unfold mN
    omega
  unfold mParse
  split
  · exact Nat.zero_le _
  · split
    · exact h
    · exact Nat.zero_le _

set_option maxRecDepth 100000 in
set_option maxHeartbeats 2000000 in
theorem law (chips other : Int) (va vc : Value) (rs : Bool) (xs : List Int) (cs : List UInt8) (w : World) (ha : RI w va xs) (hc : RB w vc cs) :
    Calls Try.prog 3 #[.agg #[.int .i64 chips, .int .i64 other, va, vc, .bool rs]] w fun e w' => e = .returned (.bool true) ∧ Below w.heap.size w w' := by
  have hfin : ∀ w', Below w.heap.size w w' → (fun e w' => e = Ending.returned (.bool true) ∧ Below w.heap.size w w') (.returned (.bool true)) w' := fun w' hb => ⟨rfl, hb⟩
  generalize (fun (e : Ending) (w' : World) => e = Ending.returned (.bool true) ∧ Below w.heap.size w w') = Post at hfin ⊢
  have HF := Lib.hid hfin
  obtain ⟨aa, ka, rfl, la1, la2⟩ := ha.form
  obtain ⟨ac, kc, rfl, lc1, lc2⟩ := hc.form
  have h0 : (w.alloc (.cells #[.int .i64 chips, .int .i64 other, .slice aa xs.length ka, .slice ac cs.length kc, .bool rs] 25)).heap[w.heap.size]? = some (.cells #[.int .i64 chips, .int .i64 other, .slice aa xs.length ka, .slice ac cs.length kc, .bool rs] 25 (0, 0)) := heap_is rfl
  have c0 := cells_at h0 0 _ rfl
  have c1 := cells_at h0 1 _ rfl
  have c2 := cells_at h0 2 _ rfl
  have c3 := cells_at h0 3 _ rfl
  have c4 := cells_at h0 4 _ rfl
  simp only [List.getElem_toArray, List.getElem_cons_succ, List.getElem_cons_zero] at c0 c1 c2 c3 c4
  have hl0 := heap_lt h0
  have HD := Lib.hid (⟨ha, hc⟩ : _ ∧ _)
  clear hfin h0 ha hc
  go_enter Try.func3, Try.ntmps3
  go_upto_region 1 with (fail)
  (refine wp_region_mix [0, 1, 2, 3, 4, 5, 6, 7, 8, 9, 10, 11, 12, 13, 14] [(true, true), (true, false), (true, true), (true, false), (true, true), (true, false), (true, true), (true, false), (true, true), (true, false), (true, true), (true, true), (true, true), (true, true), (true, true)] [0, 1, 0, 4, 0, 16, 0, 64, 0, 256, 3, 1039, 3135, 7423, 16383] _ (by kernel_rfl) (by kernel_rfl) (rfl : _ = _) ?_; simp only [pickL, List.map_cons, List.map_nil, List.getD_cons_succ, List.getD_cons_zero])
  (repeat (first | (refine mix_pure (fun hne K hK => ?_); go_simp; refine hK _ ?_; clear hK K hne) | (refine mix_load ?_ (fun K hK => ?_); (focus (first | rfl | (go_simp; done))); go_simp; refine hK _ ?_; clear hK K) | (refine mix_skip ?_ (fun K hK => ?_); (focus (first | rfl | (go_simp; done))); go_simp; refine hK _ ?_; clear hK K)))
  refine mix_done ?_
  go_wp2_with fail
  refine (msfirst_law _).mono ?_
  rintro e w1 ⟨rfl, hb1⟩
  have hbw1 : Below w.heap.size w w1 := ((Below.refl w.heap.size w).alloc (Nat.le_refl _) _).drew.trans (hb1.mono (Nat.le_of_lt hl0))
  clear c0 c1 c2 c3 c4 hl0 hb1
  obtain ⟨nx, hnx⟩ : ∃ nx, nx = xs.length := ⟨_, rfl⟩
  obtain ⟨nc, hnc⟩ : ∃ nc, nc = cs.length := ⟨_, rfl⟩
  rw [← hnx, ← hnc]
  rw [← hnx] at la1
  rw [← hnc] at lc1
  have HB1 := Lib.hid hbw1
  have HNX := Lib.hid (⟨hnx, hnc⟩ : _ ∧ _)
  clear hnx hnc hbw1
  by_cases hx6 : 6 < nx
  · have e1 : decide ((6 : Int) < (nx : Int)) = true := by simp; omega
    clear hx6
    go_wp2_with fail
    refine (msfirst_law _).mono ?_
    rintro e w2 ⟨rfl, hb2⟩
    have HE := Lib.hid (HF.out _ (HB1.out.trans (hb2.mono HB1.out.size)))
    clear hb2
    go_wp2_with fail
    exact HE.out
  have e1 : decide ((6 : Int) < (nx : Int)) = false := by simp; omega
  by_cases hcx : nc < nx
  · have e2 : decide ((nc : Int) < (nx : Int)) = true := by simp; omega
    clear hx6
    go_wp2_with fail
    refine (msfirst_law _).mono ?_
    rintro e w2 ⟨rfl, hb2⟩
    have HE := Lib.hid (HF.out _ (HB1.out.trans (hb2.mono HB1.out.size)))
    clear hb2
    go_wp2_with fail
    exact HE.out
  have e2 : decide ((nc : Int) < (nx : Int)) = false := by simp; omega
  obtain ⟨k0, hk0, -, hsh⟩ := mshape_calls chips w1
  obtain ⟨n, hn⟩ : ∃ n, n = 3 + k0 := ⟨_, rfl⟩
  rw [← hn] at hsh
  have hn16 : 3 ≤ n ∧ n ≤ 16 := by omega
  rw [show geoV ((n : Nat) : Int) ((20 : Nat) : Int) ((6 : Nat) : Int) ((256 : Nat) : Int) = .agg #[.int .i64 n, .int .i64 20, .int .i64 6, .int .i64 256] from rfl] at hsh
  have H1 := Lib.hid hsh
  clear hsh hn hk0
  go_upto_region 4 with (fail)
  clear e1 e2
  go_wp2_with fail
  refine H1.out.mono ?_
  rintro e w2 ⟨rfl, hb2⟩
  obtain ⟨q, hq⟩ : ∃ q, q = w2.heap.size := ⟨_, rfl⟩
  obtain ⟨w3, hw3⟩ : ∃ w3, w3 = w2.alloc (.cells #[.int .i64 n, .int .i64 20, .int .i64 6, .int .i64 256] 28) := ⟨_, rfl⟩
  have hb23 : Below w2.heap.size w2 w3 := by rw [hw3]; exact (Below.refl _ _).alloc (Nat.le_refl _) _
  have hG3 : w3.heap[q]? = some (.cells #[.int .i64 n, .int .i64 20, .int .i64 6, .int .i64 256] 28 (0, 0)) := by rw [hw3]; exact heap_is hq
  have hB3 := HB1.out.trans ((hb2.trans (hb23.mono hb2.size)).mono HB1.out.size)
  have H3 := Lib.hid (⟨hB3, hG3⟩ : _ ∧ _)
  have HW3 := Lib.hid hw3
  have g0 : ∀ w', Below w3.heap.size w3 w' → w'.cell? ⟨q, 0, none⟩ = some (.int .i64 n) := fun w' h => cells_at (heap_keep h hG3) 0 _ rfl
  have g1 : ∀ w', Below w3.heap.size w3 w' → w'.cell? ⟨q, 1, none⟩ = some (.int .i64 20) := fun w' h => cells_at (heap_keep h hG3) 1 _ rfl
  have g2 : ∀ w', Below w3.heap.size w3 w' → w'.cell? ⟨q, 2, none⟩ = some (.int .i64 6) := fun w' h => cells_at (heap_keep h hG3) 2 _ rfl
  have g3 : ∀ w', Below w3.heap.size w3 w' → w'.cell? ⟨q, 3, none⟩ = some (.int .i64 256) := fun w' h => cells_at (heap_keep h hG3) 3 _ rfl
  have hlg := heap_lt hG3
  clear hB3 hG3 hw3 hb2 hb23 H1
  go_upto_region 5 with (fail)
  rw [← hq, ← HW3.out]
  clear hq HW3
  (refine wp_region_mix [0, 3, 1, 2, 4, 5, 6, 7, 8, 9] [(true, false), (true, false), (false, true), (false, true), (false, false), (true, true), (true, true), (true, true), (true, true), (true, true)] [0, 1, 3, 0, 15, 31, 63, 63, 127, 511] (fun w' => Below w3.heap.size w3 w') (by kernel_rfl) (by kernel_rfl) ?_ ?_; rotate_left; simp only [pickL, List.map_cons, List.map_nil, List.getD_cons_succ, List.getD_cons_zero])
  rotate_left
  focus exact (Below.refl _ _).drew
  iterate 2 (first | (refine mix_pure (fun hne K hK => ?_); go_simp; refine hK _ ?_; clear hK K hne) | (refine mix_load ?_ (fun K hK => ?_); (focus (first | rfl | (go_simp; done))); apply Exists.intro; apply And.intro; (focus (intro w' hC; go_simp; exact rfl)); go_simp; refine hK _ ?_; clear hK K) | (refine mix_skip ?_ (fun K hK => ?_); (focus (first | rfl | (go_simp; done))); go_simp; refine hK _ ?_; clear hK K))
  clear g0 g1 g2 g3
  (refine mix_one (by first | rfl | (go_simp; done)) (fun R hR hX => ?_))
  have hf := msfirst_calls n 20 6 256 w3.drew (by omega) (by omega)
  rw [show geoV ((n : Nat) : Int) ((20 : Nat) : Int) ((6 : Nat) : Int) ((256 : Nat) : Int) = .agg #[.int .i64 n, .int .i64 20, .int .i64 6, .int .i64 256] from rfl] at hf
  have HFI := Lib.hid hf
  clear hf
  go_wp2_with fail
  refine HFI.out.mono ?_
  rintro e w4 ⟨cv, rfl, hown, hb4⟩
  obtain ⟨ca, ck, rfl⟩ := own_slice hown
  have hb4' : Below w3.heap.size w3 w4 := (Below.refl _ _).drew.trans hb4
  have hms : MsAt w4 (Ms.one n) (.slice ca n ck) := ⟨RV.own hown, by show 1 < 4294967296; decide⟩
  have hof := msof_calls _ _ w4 hms
  unfold Ms.val Ms.cells at hof
  have HOF := Lib.hid (⟨hof, hb4'⟩ : _ ∧ _)
  unfold Ms.val Ms.cells
  go_wp2_with fail
  refine hR _ _ rfl ⟨_, hb4', fun _ => rfl, ?_⟩; clear hR hX R
  clear hof hms hb4' hb4 hown HFI
  (refine mix_one (by first | rfl | (go_simp; done)) (fun R hR hX => ?_))
  go_wp2_with fail
  refine HOF.out.1.mono ?_
  rintro e w5 ⟨x5, rfl, hr5, hb5⟩
  have hb5' := HOF.out.2.trans (hb5.mono HOF.out.2.size)
  have hpg := msrpage_calls n 20 6 256 (Ms.one n) x5 w5 hr5 (by unfold geoOk; omega) (one_ok n (by omega)) (by show 1 < 4294967296; decide)
  rw [show geoV ((n : Nat) : Int) ((20 : Nat) : Int) ((6 : Nat) : Int) ((256 : Nat) : Int) = .agg #[.int .i64 n, .int .i64 20, .int .i64 6, .int .i64 256] from rfl] at hpg
  have HPG := Lib.hid (⟨hpg, hb5'⟩ : _ ∧ _)
  obtain ⟨v5, hv5, -⟩ := hr5.ex
  subst hv5
  go_wp2_with fail
  refine hR _ _ rfl ⟨_, hb5', fun _ => rfl, ?_⟩; clear hR hX R
  clear hpg hr5 hb5 hb5' HOF
  (refine mix_one (by first | rfl | (go_simp; done)) (fun R hR hX => ?_))
  go_wp2_with fail
  refine HPG.out.1.mono ?_
  rintro e w6 ⟨x, y, rfl, hD6, hO6, hb6⟩
  have hb6' := HPG.out.2.trans (hb6.mono HPG.out.2.size)
  obtain ⟨D0, hD0⟩ : ∃ D, D = msD (Ms.one n) 20 6 256 := ⟨_, rfl⟩
  obtain ⟨O0, hO0⟩ : ∃ D, D = sealB (msH (Ms.one n)) (msD (Ms.one n) 20 6 256) [] := ⟨_, rfl⟩
  have hD0l : D0.length = 256 := by
    rw [hD0]
    unfold msD
    rw [List.length_append, List.length_replicate, msB_length]
    have : (Ms.one n).chips.length = n := upTo_length n
    omega
  rw [← hD0] at hD6
  rw [← hO0] at hO6
  obtain ⟨ad, kd, rfl, -, -⟩ := hD6.form
  obtain ⟨ao, ko, rfl, -, -⟩ := hO6.form
  rw [hD0l] at hD6 ⊢
  obtain ⟨lo, hlo⟩ : ∃ lo, lo = O0.length := ⟨_, rfl⟩
  rw [← hlo] at hO6 ⊢
  have H6 := Lib.hid (⟨H3.out.1.trans (hb6'.mono H3.out.1.size), heap_keep hb6' H3.out.2, hD6, hO6, hD0l⟩ : _ ∧ _ ∧ _ ∧ _ ∧ _)
  clear hD0 hO0 hb6 hb6' hD6 hO6 HPG hD0l hlg hlo
  go_wp2_with fail
  ((try simp only [wpList]); refine hR _ _ rfl ⟨fun w' => w' = _, rfl, (fun h => by cases h), ?_⟩; clear hR hX R)
  (repeat (first | (refine mix_pure (fun hne K hK => ?_); go_simp; refine hK _ ?_; clear hK K hne) | (refine mix_load ?_ (fun K hK => ?_); (focus (first | rfl | (go_simp; done))); go_simp; refine hK _ ?_; clear hK K) | (refine mix_skip ?_ (fun K hK => ?_); (focus (first | rfl | (go_simp; done))); go_simp; refine hK _ ?_; clear hK K)))
  refine mix_done ?_
  go_wp2_with fail
  go_loopw [9, 11] (fun x9 i wr => ∃ (k : Nat) (D : List UInt8) (ax : Option Addr) (cx : Nat), k ≤ nx ∧ i = .int .i64 k ∧ x9 = .slice ax 256 cx ∧ RB wr (.slice ax 256 cx) D ∧ D.length = 256 ∧ Below w6.heap.size w6 wr) (fun _ i _ => nx - (intOf i).toNat)
  case atStart => exact ⟨0, D0, ad, kd, Nat.zero_le _, rfl, rfl, H6.out.2.2.1, H6.out.2.2.2.2, Below.refl _ _⟩
  case round =>
    generalize wr = wo at hrel ⊢
    obtain ⟨k, D, ax, cx, hk, rfl, rfl, hrb, hDl, hbel⟩ := hrel
    have hBo := H6.out.1.trans (hbel.mono H6.out.1.size)
    by_cases hlt : k < nx
    · have hki : (k : Int) < (nx : Int) := by omega
      have hkc : k < nc := by omega
      have hkci : (k : Int) < (nc : Int) := by omega
      have hkx : k < xs.length := by have := HNX.out.1; omega
      have hkd : k < cs.length := by have := HNX.out.2; omega
      obtain ⟨lb, lo', lc, hle, hca⟩ := (HD.out.1.below hBo).at hkx
      obtain ⟨mb, mo, mc, hme, -, -, hcc⟩ := (HD.out.2.below hBo).out (by omega)
      simp only [Value.slice.injEq] at hle hme
      obtain ⟨rfl, -, rfl⟩ := hle
      obtain ⟨rfl, -, rfl⟩ := hme
      replace hcc := hcc k hkd
      obtain ⟨x, hx⟩ : ∃ x, x = xs[k] := ⟨_, rfl⟩
      obtain ⟨y, hy⟩ : ∃ y, y = cs[k] := ⟨_, rfl⟩
      rw [← hx] at hca
      rw [← hy] at hcc
      clear hx hy
      have hla := cell_lt hca
      have hlc := cell_lt hcc
      have fa : ∀ w', Below wo.heap.size wo w' → w'.cell? ⟨lb, lo' + k, none⟩ = some (.int .i64 x) := fun w' h => below_cell h hla hca
      have fc : ∀ w', Below wo.heap.size wo w' → w'.cell? ⟨mb, mo + k, none⟩ = some (u8v y) := fun w' h => below_cell h hlc hcc
      obtain ⟨j, hj, hpick⟩ := pick_eq x 30 (by omega) (by omega)
      rw [show ((30 : Nat) : Int) = 30 from rfl, ← IntWalk.i64_left] at hpick
      have HT := Lib.hid (⟨hlt, hrb, hDl, hbel, hj⟩ : _ ∧ _ ∧ _ ∧ _ ∧ _)
      clear hlt hrb hDl hbel hBo hkx hkd hca hcc
      go_upto_region 9 with (fail)
      (refine wp_region_mix [0, 1, 2, 3, 4, 5, 6, 7, 8, 9, 10, 11, 12, 13, 14] [(true, true), (true, true), (true, true), (true, true), (true, false), (true, true), (true, true), (true, true), (true, true), (true, true), (true, true), (true, false), (false, true), (false, false), (true, true)] [0, 0, 0, 6, 14, 30, 62, 126, 0, 0, 768, 1792, 3840, 8191, 16383] (fun w' => Below wo.heap.size wo w') (by kernel_rfl) (by kernel_rfl) ?_ ?_; rotate_left; simp only [pickL, List.map_cons, List.map_nil, List.getD_cons_succ, List.getD_cons_zero])
      rotate_left
      focus exact (Below.refl _ _).drew
      iterate 12 (first | (refine mix_pure (fun hne K hK => ?_); go_simp; refine hK _ ?_; clear hK K hne) | (refine mix_load ?_ (fun K hK => ?_); (focus (first | rfl | (go_simp; done))); apply Exists.intro; apply And.intro; (focus (intro w' hC; go_simp; exact rfl)); go_simp; refine hK _ ?_; clear hK K) | (refine mix_skip ?_ (fun K hK => ?_); (focus (first | rfl | (go_simp; done))); go_simp; refine hK _ ?_; clear hK K))
      clear fa fc hpick
      have hal : Below wo.heap.size wo (wo.alloc (.cells #[u8v y] 5)).drew := ((Below.refl _ _).alloc (Nat.le_refl _) _).drew
      have hy1 : RB (wo.alloc (.cells #[u8v y] 5)).drew (.slice (some ⟨wo.heap.size, 0, none⟩) 1 1) [y] := (RV.cells (n := 1) (heap_is rfl) rfl (by decide) rfl : RV (wo.alloc (.cells #[u8v y] 5)) _ [u8v y]).below (Below.refl _ _).drew
      have hwc := with_calls _ _ D [y] j _ (HT.out.2.1.below hal) hy1 (by have := HT.out.2.2.2.2; have := HT.out.2.2.1; simp; omega) (by have := HT.out.2.2.1; omega)
      rw [HT.out.2.2.1] at hwc
      obtain ⟨D2, hD2⟩ : ∃ D2, D2 = D.take j ++ [y] ++ D.drop (j + [y].length) := ⟨_, rfl⟩
      have hD2l : D2.length = 256 := by
        have := HT.out.2.2.2.2
        have := HT.out.2.2.1
        rw [hD2]; simp; omega
      rw [← hD2] at hwc
      have HWC := Lib.hid (⟨hwc, hal, hD2l⟩ : _ ∧ _ ∧ _)
      clear hwc hy1 hD2 hD2l
      (refine mix_one (by first | rfl | (go_simp; done)) (fun R hR hX => ?_))
      go_wp2_with fail
      refine hR _ _ rfl ⟨_, hal, fun _ => rfl, ?_⟩; clear hR hX R hal
      (refine mix_one (by first | rfl | (go_simp; done)) (fun R hR hX => ?_))
      go_wp2_with fail
      refine HWC.out.1.mono ?_
      rintro e w8 ⟨x8, rfl, hx8, hb8⟩
      have hr8 : RB w8 x8 D2 := RV.own hx8
      obtain ⟨a8, c8, rfl⟩ := own_slice hx8
      have HZ := Lib.hid (⟨hr8, HWC.out.2.2, HT.out.2.2.2.1.trans ((HWC.out.2.1.trans (hb8.mono HWC.out.2.1.size)).mono HT.out.2.2.2.1.size)⟩ : _ ∧ _ ∧ _)
      clear hr8 hx8 hb8 HWC
      go_wp2_with fail
      ((try simp only [wpList]); refine hR _ _ rfl ⟨fun w' => w' = _, rfl, (fun h => by cases h), ?_⟩; clear hR hX R)
      (repeat (first | (refine mix_pure (fun hne K hK => ?_); go_simp; refine hK _ ?_; clear hK K hne) | (refine mix_load ?_ (fun K hK => ?_); (focus (first | rfl | (go_simp; done))); go_simp; refine hK _ ?_; clear hK K) | (refine mix_skip ?_ (fun K hK => ?_); (focus (first | rfl | (go_simp; done))); go_simp; refine hK _ ?_; clear hK K)))
      refine mix_done ?_
      clear hla hlc
      go_wp2_with fail
      go_roundw
      case rel => exact ⟨k + 1, D2, a8, c8, HT.out.1, by go_num, rfl, HZ.out.1, HZ.out.2.1, HZ.out.2.2⟩
      case measure => have := HT.out.1; show nx - ((k : Int) + 1).toNat < nx - (k : Int).toNat; omega
    · have hkn : nx = k := by omega
      subst hkn
      have H7 := Lib.hid (⟨hBo, heap_keep hbel H6.out.2.1, hrb, H6.out.2.2.2.1.below hbel, hDl⟩ : _ ∧ _ ∧ _ ∧ _ ∧ _)
      clear hlt hk hrb hDl hbel hBo
      go_upto_if 72 with (fail)
      go_cut [10] (fun s10 wx => ∃ (O : List UInt8) (ax : Option Addr) (lx cx : Nat), s10 = .slice ax lx cx ∧ RB wx (.slice ax lx cx) O ∧ Below wo.heap.size wo wx)
      case first =>
        cases rs with
        | false =>
          go_wp2_with fail
          go_meet
          exact ⟨O0, ao, lo, ko, rfl, H7.out.2.2.2.1, Below.refl _ _⟩
        | true =>
          have hsl := mssealed_calls (Ms.one n) _ D wo H7.out.2.2.1 (by rw [H7.out.2.2.2.2]; omega) (by show 1 < 4294967296; decide)
          have HSL := Lib.hid hsl
          clear hsl
          go_wp2_with fail
          refine HSL.out.mono ?_
          rintro e w8 ⟨x8, rfl, hx8, hb8⟩
          have hr8 : RB w8 x8 (sealB (msH (Ms.one n)) D []) := RV.own hx8
          obtain ⟨a8, c8, rfl⟩ := own_slice hx8
          have HZ := Lib.hid (⟨hr8, hb8⟩ : _ ∧ _)
          clear hr8 hx8 hb8 HSL
          go_wp2_with fail
          go_meet
          exact ⟨_, a8, 64, c8, rfl, HZ.out.1, HZ.out.2⟩
      case rest =>
        obtain ⟨O, aO, lO, kO, rfl, hO, hbc⟩ := hcut
        have hGc := heap_keep hbc H7.out.2.1
        have H8 := Lib.hid (⟨H7.out.1.trans (hbc.mono H7.out.1.size), hGc, H7.out.2.2.1.below hbc, hO, H7.out.2.2.2.2⟩ : _ ∧ _ ∧ _ ∧ _ ∧ _)
        have g0 := cells_at hGc 0 _ rfl
        have g1 := cells_at hGc 1 _ rfl
        have g2 := cells_at hGc 2 _ rfl
        have g3 := cells_at hGc 3 _ rfl
        simp only [List.getElem_toArray, List.getElem_cons_succ, List.getElem_cons_zero] at g0 g1 g2 g3
        have hlg := heap_lt hGc
        obtain ⟨q2, hq2⟩ : ∃ q, q = wc.heap.size := ⟨_, rfl⟩
        obtain ⟨w9, hw9⟩ : ∃ x, x = wc.alloc (.cells #[.int .i64 n, .int .i64 20, .int .i64 6, .int .i64 256] 28) := ⟨_, rfl⟩
        have hb9 : Below wc.heap.size wc w9 := by rw [hw9]; exact (Below.refl _ _).alloc (Nat.le_refl _) _
        have hG9 : w9.heap[q2]? = some (.cells #[.int .i64 n, .int .i64 20, .int .i64 6, .int .i64 256] 28 (0, 0)) := by rw [hw9]; exact heap_is hq2
        have H9 := Lib.hid (⟨hb9, hG9, hq2⟩ : _ ∧ _ ∧ _)
        have HW9 := Lib.hid hw9
        clear hGc hO hbc hb9 hG9 hw9
        go_upto_if 78 with (fail)
        rw [← hq2, ← HW9.out]
        clear hq2 HW9 g0 g1 g2 g3 hlg
        generalize wc = wv at H8 H9 ⊢
        go_cut [] (fun wx => ∃ n2 : Nat, (3 ≤ n2 ∧ n2 ≤ 16) ∧ wx.heap[q2]? = some (.cells #[.int .i64 n2, .int .i64 20, .int .i64 6, .int .i64 256] 28 (0, 0)) ∧ Below wv.heap.size wv wx)
        case first =>
          by_cases ho : other.tmod 3 = 0
          · have e1 : (other.tmod 3 == 0) = true := by simpa using ho
            obtain ⟨k1, hk1, -, hsh⟩ := mshape_calls other w9
            obtain ⟨n2, hn2⟩ : ∃ n, n = 3 + k1 := ⟨_, rfl⟩
            rw [← hn2] at hsh
            rw [show geoV ((n2 : Nat) : Int) ((20 : Nat) : Int) ((6 : Nat) : Int) ((256 : Nat) : Int) = .agg #[.int .i64 n2, .int .i64 20, .int .i64 6, .int .i64 256] from rfl] at hsh
            have HS := Lib.hid hsh
            have HN2 := Lib.hid (show 3 ≤ n2 ∧ n2 ≤ 16 by omega)
            clear hsh hn2 hk1 ho
            go_wp2_with fail
            refine HS.out.mono ?_
            rintro e w10 ⟨rfl, hb10⟩
            have hG10 := heap_keep hb10 H9.out.2.1
            have g0 := cells_at hG10 0 _ rfl
            have g1 := cells_at hG10 1 _ rfl
            have g2 := cells_at hG10 2 _ rfl
            have g3 := cells_at hG10 3 _ rfl
            have f0 := froz_at hG10 0
            have f1 := froz_at hG10 1
            have f2 := froz_at hG10 2
            have f3 := froz_at hG10 3
            simp only [List.getElem_toArray, List.getElem_cons_succ, List.getElem_cons_zero] at g0 g1 g2 g3
            have hlg := heap_lt hG10
            have hset := set4 (u0 := .int .i64 n2) (u1 := .int .i64 20) (u2 := .int .i64 6) (u3 := .int .i64 256) hG10
            have hput := put4 (H9.out.1.trans (hb10.mono H9.out.1.size)) q2 (.int .i64 n2) (.int .i64 20) (.int .i64 6) (.int .i64 256) (by rw [H9.out.2.2]; exact Nat.le_refl _)
            have HZ := Lib.hid (⟨hset, hput⟩ : _ ∧ _)
            clear hset hput hG10 hb10 HS
            go_wp2_with fail
            go_meet
            exact ⟨n2, HN2.out, HZ.out.1, HZ.out.2⟩
          · have e1 : (other.tmod 3 == 0) = false := by simpa using ho
            clear ho
            go_wp2_with fail
            go_meet
            exact ⟨n, hn16, H9.out.2.1, H9.out.1⟩
        case rest =>
          obtain ⟨n2, hn2, hG, hbc⟩ := hcut
          have hB := H8.out.1.trans (hbc.mono H8.out.1.size)
          have hgo : geoOk n2 20 6 256 := by unfold geoOk; omega
          have hmp := msparse_calls n2 20 6 256 _ _ D O wc (H8.out.2.2.1.below hbc) (H8.out.2.2.2.1.below hbc) hgo
          rw [show geoV ((n2 : Nat) : Int) ((20 : Nat) : Int) ((6 : Nat) : Int) ((256 : Nat) : Int) = .agg #[.int .i64 n2, .int .i64 20, .int .i64 6, .int .i64 256] from rfl] at hmp
          have hlen := mparse_len n2 20 6 256 D O
          obtain ⟨M, hM⟩ : ∃ M, M = mParse n2 20 6 256 D O := ⟨_, rfl⟩
          unfold MParseEnds at hmp
          rw [← hM] at hmp hlen
          have HMP := Lib.hid (⟨hmp, hB, hG, H8.out.2.2.1.below hbc, H8.out.2.2.2.1.below hbc, hM, hgo⟩ : _ ∧ _ ∧ _ ∧ _ ∧ _ ∧ _ ∧ _)
          have HLN := Lib.hid hlen
          have g0 := cells_at hG 0 _ rfl
          have g1 := cells_at hG 1 _ rfl
          have g2 := cells_at hG 2 _ rfl
          have g3 := cells_at hG 3 _ rfl
          simp only [List.getElem_toArray, List.getElem_cons_succ, List.getElem_cons_zero] at g0 g1 g2 g3
          have hlg := heap_lt hG
          clear hmp hB hM hgo hG hbc hlen H9
          go_wp2_with fail
          refine HMP.out.1.mono ?_
          rintro e w10 ⟨v, rfl, hmv, hb10⟩
          obtain ⟨⟨sq, ch, sp, dd, dn⟩, er⟩ := M
          obtain ⟨av, kv, rfl, -, -⟩ := hmv.c.form
          unfold Ms.val Ms.cells
          simp only
          obtain ⟨r1, hr1⟩ : ∃ r, r = w10.heap.size := ⟨_, rfl⟩
          obtain ⟨w11, hw11⟩ : ∃ x, x = w10.alloc (.cells #[.int .u32 sq, .slice av ch.length kv, .int .i64 sp, .int .i64 dd, .int .i64 dn] 37) := ⟨_, rfl⟩
          have hb11 : Below w10.heap.size w10 w11 := by rw [hw11]; exact (Below.refl _ _).alloc (Nat.le_refl _) _
          have hS11 : w11.heap[r1]? = some (.cells #[.int .u32 sq, .slice av ch.length kv, .int .i64 sp, .int .i64 dd, .int .i64 dn] 37 (0, 0)) := by rw [hw11]; exact heap_is hr1
          have hbc11 := hb10.trans (hb11.mono hb10.size)
          have hG11 := heap_keep hbc11 HMP.out.2.2.1
          have hrp := msrparse_calls n2 20 6 256 _ _ D O w11 (HMP.out.2.2.2.1.below hbc11) (HMP.out.2.2.2.2.1.below hbc11) HMP.out.2.2.2.2.2.2 (by rw [H8.out.2.2.2.2]; omega)
          rw [show geoV ((n2 : Nat) : Int) ((20 : Nat) : Int) ((6 : Nat) : Int) ((256 : Nat) : Int) = .agg #[.int .i64 n2, .int .i64 20, .int .i64 6, .int .i64 256] from rfl] at hrp
          unfold RMParseEnds at hrp
          rw [← HMP.out.2.2.2.2.2.1] at hrp
          have HRP := Lib.hid (⟨hrp, HMP.out.2.1.trans (hbc11.mono HMP.out.2.1.size), hS11, hmv.below hb11⟩ : _ ∧ _ ∧ _ ∧ _)
          have HW11 := Lib.hid hw11
          clear g0 g1 g2 g3 hlg
          have g0 := cells_at hG11 0 _ rfl
          have g1 := cells_at hG11 1 _ rfl
          have g2 := cells_at hG11 2 _ rfl
          have g3 := cells_at hG11 3 _ rfl
          simp only [List.getElem_toArray, List.getElem_cons_succ, List.getElem_cons_zero] at g0 g1 g2 g3
          have hlg := heap_lt hG11
          clear hrp hS11 hbc11 hb11 hb10 hmv hw11 hG11 HMP
          go_upto_region 16 with (fail)
          rw [← hr1, ← HW11.out]
          clear hr1 HW11
          go_wp2_with fail
          refine HRP.out.1.mono ?_
          rintro e w12 ⟨v2, rfl, hmr, hb12⟩
          obtain ⟨vc2, hv2, hri2⟩ := hmr.ex
          subst hv2
          obtain ⟨ar, kr, rfl, -, -⟩ := hri2.form
          simp only at hmr hri2 ⊢
          obtain ⟨r2, hr2⟩ : ∃ r, r = w12.heap.size := ⟨_, rfl⟩
          obtain ⟨w13, hw13⟩ : ∃ x, x = w12.alloc (.cells #[.int .i64 sq, .slice ar ch.length kr, .int .i64 sp, .int .i64 dd, .int .i64 dn] 33) := ⟨_, rfl⟩
          have hb13 : Below w12.heap.size w12 w13 := by rw [hw13]; exact (Below.refl _ _).alloc (Nat.le_refl _) _
          have hT13 : w13.heap[r2]? = some (.cells #[.int .i64 sq, .slice ar ch.length kr, .int .i64 sp, .int .i64 dd, .int .i64 dn] 33 (0, 0)) := by rw [hw13]; exact heap_is hr2
          have hbc13 := hb12.trans (hb13.mono hb12.size)
          have hS13 := heap_keep hbc13 HRP.out.2.2.1
          have HW13 := Lib.hid hw13
          have H13 := Lib.hid (⟨HRP.out.2.1.trans (hbc13.mono HRP.out.2.1.size), HRP.out.2.2.2.below hbc13, hmr.below hb13⟩ : _ ∧ _ ∧ _)
          have s0 : ∀ w', Below w13.heap.size w13 w' → w'.cell? ⟨r1, 0, none⟩ = some (.int .u32 sq) := fun w' h => cells_at (heap_keep h hS13) 0 _ rfl
          have s1 : ∀ w', Below w13.heap.size w13 w' → w'.cell? ⟨r1, 1, none⟩ = some (.slice av ch.length kv) := fun w' h => cells_at (heap_keep h hS13) 1 _ rfl
          have s2 : ∀ w', Below w13.heap.size w13 w' → w'.cell? ⟨r1, 2, none⟩ = some (.int .i64 sp) := fun w' h => cells_at (heap_keep h hS13) 2 _ rfl
          have s3 : ∀ w', Below w13.heap.size w13 w' → w'.cell? ⟨r1, 3, none⟩ = some (.int .i64 dd) := fun w' h => cells_at (heap_keep h hS13) 3 _ rfl
          have s4 : ∀ w', Below w13.heap.size w13 w' → w'.cell? ⟨r1, 4, none⟩ = some (.int .i64 dn) := fun w' h => cells_at (heap_keep h hS13) 4 _ rfl
          have t0 : ∀ w', Below w13.heap.size w13 w' → w'.cell? ⟨r2, 0, none⟩ = some (.int .i64 sq) := fun w' h => cells_at (heap_keep h hT13) 0 _ rfl
          have t1 : ∀ w', Below w13.heap.size w13 w' → w'.cell? ⟨r2, 1, none⟩ = some (.slice ar ch.length kr) := fun w' h => cells_at (heap_keep h hT13) 1 _ rfl
          have t2 : ∀ w', Below w13.heap.size w13 w' → w'.cell? ⟨r2, 2, none⟩ = some (.int .i64 sp) := fun w' h => cells_at (heap_keep h hT13) 2 _ rfl
          have t3 : ∀ w', Below w13.heap.size w13 w' → w'.cell? ⟨r2, 3, none⟩ = some (.int .i64 dd) := fun w' h => cells_at (heap_keep h hT13) 3 _ rfl
          have t4 : ∀ w', Below w13.heap.size w13 w' → w'.cell? ⟨r2, 4, none⟩ = some (.int .i64 dn) := fun w' h => cells_at (heap_keep h hT13) 4 _ rfl
          have hl1 := heap_lt hS13
          have hl2 := heap_lt hT13
          clear hT13 hS13 hbc13 hb13 hb12 hmr hri2 hw13 HRP g0 g1 g2 g3 hlg
          go_upto_region 17 with (fail)
          rw [← hr2, ← HW13.out]
          clear hr2 HW13
          have ee : ((er : Int) == (er : Int)) = true := by simp
          (refine wp_region_mix [0, 1, 2, 3, 4, 6, 5, 7, 8, 9] [(true, true), (true, true), (true, true), (true, true), (true, false), (true, false), (false, true), (false, false), (true, true), (true, true)] [0, 0, 3, 7, 15, 31, 15, 127, 255, 511] (fun w' => Below w13.heap.size w13 w') (by kernel_rfl) (by kernel_rfl) ?_ ?_; rotate_left; simp only [pickL, List.map_cons, List.map_nil, List.getD_cons_succ, List.getD_cons_zero])
          rotate_left
          focus exact (Below.refl _ _).drew
          iterate 6 (first | (refine mix_pure (fun hne K hK => ?_); go_simp; refine hK _ ?_; clear hK K hne) | (refine mix_load ?_ (fun K hK => ?_); (focus (first | rfl | (go_simp; done))); apply Exists.intro; apply And.intro; (focus (intro w' hC; go_simp; exact rfl)); go_simp; refine hK _ ?_; clear hK K) | (refine mix_skip ?_ (fun K hK => ?_); (focus (first | rfl | (go_simp; done))); go_simp; refine hK _ ?_; clear hK K))
          clear s0 s1 s2 s3 s4 t0 t1 t2 t3 t4 hl1 hl2
          (refine mix_one (by first | rfl | (go_simp; done)) (fun R hR hX => ?_))
          have hof := msof_calls _ _ w13.drew (H13.out.2.1.below (Below.refl _ _).drew)
          unfold Ms.val Ms.cells at hof
          simp only at hof
          have HOF := Lib.hid hof
          clear hof
          go_wp2_with fail
          refine HOF.out.mono ?_
          rintro e w14 ⟨z, rfl, hz, hb14⟩
          have hb14' : Below w13.heap.size w13 w14 := (Below.refl _ _).drew.trans hb14
          have hsa := msame_calls _ _ _ w14 hz (H13.out.2.2.below hb14') (by have h2 : ch.length ≤ 255 := HLN.out; show ch.length ≤ 100000; omega)
          have HSA := Lib.hid (⟨hsa, hb14'⟩ : _ ∧ _)
          obtain ⟨z2c, hz2, -⟩ := hz.ex
          subst hz2
          go_wp2_with fail
          refine hR _ _ rfl ⟨_, hb14', fun _ => rfl, ?_⟩; clear hR hX R
          clear hsa hz hb14 hb14' HOF
          (refine mix_one (by first | rfl | (go_simp; done)) (fun R hR hX => ?_))
          go_wp2_with fail
          refine HSA.out.1.mono ?_
          rintro e w15 ⟨rfl, hb15⟩
          have HFIN := Lib.hid (HF.out _ (H13.out.1.trans ((HSA.out.2.trans (hb15.mono HSA.out.2.size)).mono H13.out.1.size)))
          clear hb15 HSA
          go_wp2_with fail
          ((try simp only [wpList]); refine hR _ _ rfl ⟨fun w' => w' = _, rfl, (fun h => by cases h), ?_⟩; clear hR hX R)
          (repeat (first | (refine mix_pure (fun hne K hK => ?_); go_simp; refine hK _ ?_; clear hK K hne) | (refine mix_load ?_ (fun K hK => ?_); (focus (first | rfl | (go_simp; done))); go_simp; refine hK _ ?_; clear hK K) | (refine mix_skip ?_ (fun K hK => ?_); (focus (first | rfl | (go_simp; done))); go_simp; refine hK _ ?_; clear hK K)))
          refine mix_done ?_
          go_wp2_with fail
          exact HFIN.out

set_option maxRecDepth 100000 in
theorem walk {H : Type} (enc : TypeId × Value → H) (W : World) (base : Nat) (v0 : Value) (d0 : DataW H) (p0 : List MemPlace)
    (hv0 : Value.okWide Try.prog W .any base 25 v0) (h0 : DataW.Trod enc Try.prog W 0 (fun _ => true) true 25 v0 d0 p0)
    (_hsz : (DataW.weightsEach Try.prog [25] [d0]).all (· ≤ reachBytes) = true) :
    Calls Try.prog 3 #[v0] W fun e W' => e = .returned (.bool true) ∧ Below W.heap.size W W' := by
  obtain ⟨chips, other, va, vc, rs, xs, cs, rfl, h1, h2⟩ := open_mparses h0 hv0
  exact law chips other va vc rs xs cs W h1 h2
end Go.Proofs.Ytogejjbclimjjaa.lawMemberParses
