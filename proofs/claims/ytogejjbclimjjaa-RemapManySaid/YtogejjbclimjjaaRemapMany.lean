/- RemapMany: the walk. -/
--only r2
import Derived.Test.YtogejjbclimjjaaTabLaid
import Derived.Test.YtogejjbclimjjaaTabOpens
namespace Go.Proofs.Ytogejjbclimjjaa.lawRemapMany
set_option linter.unusedVariables false
set_option linter.unusedSimpArgs false
open Go.RowKit Go.ChangeShapes Go.WideShapes

/-- the table of the law's own, so far -/
structure MInv (w : World) (q r b : Nat) (rv : Value) (xs : List Int) (pl : Nat) (T : Tb) (vp vs : Value) (wr : World) : Prop where
  bel : Below w.heap.size w wr
  geo : wr.heap[q]? = some (.cells #[.int .i64 3, .int .i64 b, .int .i64 4, .int .i64 256] 28 (0, 0))
  cell : wr.heap[r]? = some (.cells (T.cells vp vs) 57 (0, 0))
  tab : TabAt wr T vp vs
  ok : T.Ok b
  pl : T.place.length = pl
  ri : RI wr rv xs
theorem MInv.below {w : World} {q r b : Nat} {rv : Value} {xs : List Int} {pl : Nat} {T : Tb} {vp vs : Value} {wr wn : World} (h : MInv w q r b rv xs pl T vp vs wr) (hb : Below wr.heap.size wr wn) : MInv w q r b rv xs pl T vp vs wn :=
  ⟨h.bel.trans (hb.mono h.bel.size), heap_keep hb h.geo, heap_keep hb h.cell, h.tab.below hb, h.ok, h.pl, h.ri.below hb⟩

set_option maxRecDepth 100000 in
set_option maxHeartbeats 1000000 in
theorem law (blocks turn spare : Int) (rv : Value) (xs : List Int) (w : World) (hr : RI w rv xs) :
    Calls Try.prog 8 #[.agg #[.int .i64 blocks, .int .i64 turn, .int .i64 spare, rv]] w fun e w' => e = .returned (.bool true) ∧ Below w.heap.size w w' := by
  have hfin : ∀ w', Below w.heap.size w w' → (fun e w' => e = Ending.returned (.bool true) ∧ Below w.heap.size w w') (.returned (.bool true)) w' := fun w' hb => ⟨rfl, hb⟩
  generalize (fun (e : Ending) (w' : World) => e = Ending.returned (.bool true) ∧ Below w.heap.size w w') = Post at hfin ⊢
  have HF := Lib.hid hfin
  obtain ⟨ar, kr, rfl, hl1, hl2⟩ := hr.form
  obtain ⟨b0, hb0, -, hsh⟩ := RI.shape2 blocks (w.alloc (.cells #[.int .i64 blocks, .int .i64 turn, .int .i64 spare, .slice ar xs.length kr] 87)).drew
  obtain ⟨b, hb⟩ : ∃ b, b = 16 + b0 := ⟨_, rfl⟩
  rw [← hb] at hsh
  have hb16 : 16 ≤ b ∧ b ≤ 64 := by omega
  obtain ⟨n, hn, hpn⟩ := pick_eq turn b (by omega) (by omega)
  obtain ⟨k, hk, hpk⟩ := pick_eq spare 4 (by omega) (by omega)
  obtain ⟨T, hT⟩ : ∃ T, T = plainT b n k 1 := ⟨_, rfl⟩
  have hok : T.Ok b := by rw [hT]; exact plain_ok hb16 hk
  have hg : geoOk (3 : Nat) (b : Nat) (4 : Nat) (256 : Nat) := by unfold geoOk; omega
  rw [show geoV ((3 : Nat) : Int) ((b : Nat) : Int) ((4 : Nat) : Int) ((256 : Nat) : Int) = .agg #[.int .i64 3, .int .i64 b, .int .i64 4, .int .i64 256] from rfl] at hsh
  have h0 : (w.alloc (.cells #[.int .i64 blocks, .int .i64 turn, .int .i64 spare, .slice ar xs.length kr] 87)).heap[w.heap.size]? = some (.cells #[.int .i64 blocks, .int .i64 turn, .int .i64 spare, .slice ar xs.length kr] 87 (0, 0)) := heap_is rfl
  have c0 := cells_at h0 0 _ rfl
  have c1 := cells_at h0 1 _ rfl
  have c2 := cells_at h0 2 _ rfl
  have c3 := cells_at h0 3 _ rfl
  simp only [List.getElem_toArray, List.getElem_cons_succ, List.getElem_cons_zero] at c0 c1 c2 c3
  have hl0 := heap_lt h0
  have HT := Lib.hid (⟨hT, hok, hg, hr, hsh, hpn, hpk, hn, hk, hb16⟩ : _ ∧ _ ∧ _ ∧ _ ∧ _ ∧ _ ∧ _ ∧ _ ∧ _ ∧ _)
  clear hT hok hg hr hsh hpn hpk hn hk hb hb0 hfin h0 hb16
  go_enter Try.func8, Try.ntmps8
  go_upto_region 1 with (fail)
  (refine wp_region_mix [0, 1, 2, 3, 4, 5, 6, 7, 8, 9, 10, 11] [(true, true), (true, false), (true, true), (true, false), (true, true), (true, false), (true, true), (true, false), (true, true), (true, true), (true, true), (true, true)] [0, 1, 0, 4, 0, 16, 0, 64, 3, 271, 831, 2047] _ (by kernel_rfl) (by kernel_rfl) (rfl : _ = _) ?_; simp only [pickL, List.map_cons, List.map_nil, List.getD_cons_succ, List.getD_cons_zero])
  (repeat (first | (refine mix_pure (fun hne K hK => ?_); go_simp; refine hK _ ?_; clear hK K hne) | (refine mix_load ?_ (fun K hK => ?_); (focus (first | rfl | (go_simp; done))); go_simp; refine hK _ ?_; clear hK K) | (refine mix_skip ?_ (fun K hK => ?_); (focus (first | rfl | (go_simp; done))); go_simp; refine hK _ ?_; clear hK K)))
  refine mix_done ?_
  go_wp2_with fail
  refine HT.out.2.2.2.2.1.mono ?_
  rintro e w1 ⟨rfl, hb1⟩
  have hbw1 : Below w.heap.size w w1 := ((Below.refl w.heap.size w).alloc (Nat.le_refl _) _).drew.trans (hb1.mono (Nat.le_of_lt hl0))
  obtain ⟨q, hq⟩ : ∃ q, q = w1.heap.size := ⟨_, rfl⟩
  obtain ⟨w2, hw2⟩ : ∃ w2, w2 = w1.alloc (.cells #[.int .i64 3, .int .i64 b, .int .i64 4, .int .i64 256] 28) := ⟨_, rfl⟩
  have hb2 : Below w.heap.size w w2 := by rw [hw2]; exact hbw1.alloc hbw1.size _
  have hG : w2.heap[q]? = some (.cells #[.int .i64 3, .int .i64 b, .int .i64 4, .int .i64 256] 28 (0, 0)) := by rw [hw2]; exact heap_is hq
  have hql : w.heap.size ≤ q := by rw [hq]; exact hbw1.size
  clear c0 c1 c2 c3 hl0 hb1
  have g0 := cells_at hG 0 _ rfl
  have g1 := cells_at hG 1 _ rfl
  have g2 := cells_at hG 2 _ rfl
  have g3 := cells_at hG 3 _ rfl
  simp only [List.getElem_toArray, List.getElem_cons_succ, List.getElem_cons_zero] at g0 g1 g2 g3
  have hlg := heap_lt hG
  have hpc := plain_calls 3 b 4 256 turn spare n k 1 w2 HT.out.2.2.2.2.2.2.2.2.2 HT.out.2.2.2.2.2.1 HT.out.2.2.2.2.2.2.1 HT.out.2.2.2.2.2.2.2.1 HT.out.2.2.2.2.2.2.2.2.1 (by omega)
  rw [← HT.out.1] at hpc
  rw [show geoV ((3 : Nat) : Int) (b : Int) ((4 : Nat) : Int) ((256 : Nat) : Int) = .agg #[.int .i64 3, .int .i64 b, .int .i64 4, .int .i64 256] from rfl, show ((1 : Nat) : Int) = 1 from rfl] at hpc
  have HPC := Lib.hid hpc
  have H2 := Lib.hid (⟨hb2, hG, hql⟩ : _ ∧ _ ∧ _)
  have HW2 := Lib.hid hw2
  clear hbw1 hb2 hG hpc hw2 hql
  go_upto_region 3 with (fail)
  rw [← hq, ← HW2.out]
  clear hq HW2
  go_wp2_with fail
  refine HPC.out.mono ?_
  rintro e w3 ⟨vp, vs, rfl, hta, hb3⟩
  obtain ⟨ap, kp, rfl, hp1, hp2⟩ := hta.p.form
  obtain ⟨ax, kx, rfl, hx1, hx2⟩ := hta.s.form
  obtain ⟨r, hr⟩ : ∃ r, r = w3.heap.size := ⟨_, rfl⟩
  obtain ⟨w4, hw4⟩ : ∃ w4, w4 = w3.alloc (.cells (T.cells (.slice ap T.place.length kp) (.slice ax T.spare.length kx)) 57) := ⟨_, rfl⟩
  have hb24 : Below w2.heap.size w2 w4 := by rw [hw4]; exact hb3.alloc hb3.size _
  have hM4 : MInv w q r b (.slice ar xs.length kr) xs T.place.length T (.slice ap T.place.length kp) (.slice ax T.spare.length kx) w4 :=
    ⟨H2.out.1.trans (hb24.mono H2.out.1.size), heap_keep hb24 H2.out.2.1, by rw [hw4]; exact heap_is hr, hta.below (by rw [hw4]; exact (Below.refl _ _).alloc (Nat.le_refl _) _), HT.out.2.1, rfl, HT.out.2.2.2.1.below (H2.out.1.trans (hb24.mono H2.out.1.size))⟩
  have hrl : q < r := by
    rw [hr]
    have := heap_lt H2.out.2.1
    have := hb3.size
    omega
  have HM4 := Lib.hid (⟨hM4, hrl, H2.out.2.2⟩ : _ ∧ _ ∧ _)
  have HW4 := Lib.hid hw4
  clear hM4 hrl hta hb3 hb24 hw4 H2 HPC hp1 hp2 hx1 hx2
  unfold tabV
  unfold Tb.cells at HW4 ⊢
  go_upto_region 4 with (fail)
  rw [← hr, ← HW4.out]
  clear hr HW4
  go_wp2_with fail
  refine (laid_calls w4).mono ?_
  rintro e w5 ⟨rfl, hb5⟩
  have hM5 := HM4.out.1.below hb5
  have HM5 := Lib.hid (⟨hM5, HM4.out.2⟩ : _ ∧ _)
  clear hM5 hb5 HM4
  by_cases hgt : 20 < xs.length
  · have eg : decide ((20 : Int) < (xs.length : Int)) = true := by simp; omega
    clear hgt
    go_wp2_with fail
    refine (laid_calls w5).mono ?_
    rintro e w6 ⟨rfl, hb6⟩
    have hB6 := HM5.out.1.bel.trans (hb6.mono HM5.out.1.bel.size)
    have HB6 := Lib.hid hB6
    clear hb6 hB6
    go_wp2_with fail
    exact HF.out _ HB6.out
  have eg : decide ((20 : Int) < (xs.length : Int)) = false := by simp; omega
  have hgt' : xs.length ≤ 20 := by omega
  have HGT := Lib.hid hgt'
  clear hgt hgt'
  have hR5 := HM5.out.1.cell
  unfold Tb.cells at hR5
  have r2 := cells_at hR5 2 _ rfl
  simp only [List.getElem_toArray, List.getElem_cons_succ, List.getElem_cons_zero] at r2
  have hlr := heap_lt hR5
  clear hR5
  have hL0 : ∃ (T' : Tb) (vp vs : Value), (T.spare.length : Int) = (T'.spare.length : Int) ∧ MInv w q r b (.slice ar xs.length kr) xs T.place.length T' vp vs w5 := ⟨T, _, _, rfl, HM5.out.1⟩
  have HL0 := Lib.hid hL0
  clear hL0
  obtain ⟨hnH⟩ : ∃ _ : True, True := ⟨trivial, trivial⟩
  have HQ := Lib.hid (⟨HM5.out.2, HT.out.2.2.2.2.2.2.2.2.2, HT.out.2.2.1, HT.out.2.2.2.1⟩ : _ ∧ _ ∧ _ ∧ _)
  go_upto_region 7 with (fail)
  clear HM5 HT r2 hlr eg g0 g1 g2 g3 hlg
  go_wp2_with fail
  go_loopw [9, 10] (fun l9 i wr => ∃ (j : Nat) (T' : Tb) (vp vs : Value), j ≤ xs.length ∧ i = .int .i64 j ∧ l9 = .int .i64 T'.spare.length ∧ MInv w q r b (.slice ar xs.length kr) xs T.place.length T' vp vs wr) (fun _ i _ => xs.length - (intOf i).toNat)
  case atStart =>
    obtain ⟨T', vp', vs', h1, h2⟩ := HL0.out
    exact ⟨0, T', vp', vs', Nat.zero_le _, rfl, by rw [h1], h2⟩
  case round =>
    obtain ⟨j, T', vp', vs', hj, rfl, rfl, hM⟩ := hrel
    by_cases hlt : j < xs.length
    · obtain ⟨bx, ox, cx, ex, hx⟩ := hM.ri.at hlt
      simp only [Value.slice.injEq] at ex
      obtain ⟨rfl, -, rfl⟩ := ex
      obtain ⟨pl, hpl⟩ : ∃ pl, pl = T.place.length := ⟨_, rfl⟩
      rw [← hpl] at hM
      obtain ⟨ap', kp', rfl, -, -⟩ := hM.tab.p.form
      obtain ⟨ax', kx', rfl, -, -⟩ := hM.tab.s.form
      have hT1 := hM.pl
      have hT2 := hM.ok.1
      have hb64 := HQ.out.2.1.2
      rw [hT1] at hT2
      rw [hT1] at hM
      obtain ⟨x, hxx⟩ : ∃ x, x = xs[j] := ⟨_, rfl⟩
      rw [← hxx] at hx
      obtain ⟨kk, hkk, hpick⟩ := pick_eq x (pl + 2) (by omega) (by omega)
      rw [show ((pl + 2 : Nat) : Int) = (pl : Int) + 2 from by omega, ← IntWalk.i64_left] at hpick
      have hw1' : IntKind.i64.wrap ((pl : Int) + 2) = (pl : Int) + 2 := IntWalk.i64_in _ (by omega)
      have hw2' : IntKind.u64.wrap ((pl : Int) + 2) = (pl : Int) + 2 := by rw [IntKind.wrap_u64]; omega
      obtain ⟨v, hv⟩ : ∃ v : Int, v = (kk : Int) - 2 := ⟨_, rfl⟩
      have hw3' : IntKind.i64.wrap ((kk : Int) - 2) = v := by rw [hv]; exact IntWalk.i64_in _ (by omega)
      have hz' : ((pl : Int) + 2 == 0) = false := by rw [beq_eq_false_iff_ne]; omega
      have hz2' : ¬ ((pl : Int) + 2 = 0) := by omega
      have hvv : I64 v ∧ -2 ≤ v ∧ v < pl := by unfold I64; omega
      have hR' := hM.cell
      unfold Tb.cells at hR'
      have r1 := cells_at hR' 1 _ rfl
      simp only [List.getElem_toArray, List.getElem_cons_succ, List.getElem_cons_zero] at r1
      have hlr := heap_lt hR'
      have hlt' : (j : Int) < (xs.length : Int) := by omega
      have hj0 : (0 : Int) ≤ (j : Int) := by omega
      have hlx := cell_lt hx
      have HH := Lib.hid (⟨hM, hvv, hpl, hT2, hb64, hlt⟩ : _ ∧ _ ∧ _ ∧ _ ∧ _ ∧ _)
      clear hvv hv hR' hM hT1 hT2 hb64 hxx hlt hkk hpl hj
      go_upto_region 10 with (fail)
      (refine wp_region_mix [0, 1, 2, 3, 4, 5, 6, 7, 8, 9, 10, 11, 12, 13] [(true, true), (true, true), (true, true), (true, false), (true, true), (true, true), (true, false), (true, true), (true, true), (true, true), (true, true), (true, true), (true, true), (true, true)] [0, 0, 3, 7, 15, 0, 32, 96, 224, 480, 1023, 2047, 4095, 8191] _ (by kernel_rfl) (by kernel_rfl) (rfl : _ = _) ?_; simp only [pickL, List.map_cons, List.map_nil, List.getD_cons_succ, List.getD_cons_zero])
      (repeat (first | (refine mix_pure (fun hne K hK => ?_); go_simp; refine hK _ ?_; clear hK K hne) | (refine mix_load ?_ (fun K hK => ?_); (focus (first | rfl | (go_simp; done))); go_simp; refine hK _ ?_; clear hK K) | (refine mix_skip ?_ (fun K hK => ?_); (focus (first | rfl | (go_simp; done))); go_simp; refine hK _ ?_; clear hK K)))
      refine mix_done ?_
      (try simp only [hpick, hw3'])
      clear hz' hz2' hpick hw1' hw2' hw3' r1 hx hlx
      have hMd := HH.out.1.below (Below.refl _ _).drew
      have htk := take_calls T' _ _ v wr.drew hMd.tab HH.out.2.1.1 (by have := hMd.ok.len; have := HH.out.2.2.2.2.1; omega) (by have := hMd.ok.len; have := HH.out.2.2.2.2.1; omega)
      unfold tabV at htk
      unfold Tb.cells at htk
      have HTK := Lib.hid (⟨htk, hMd⟩ : _ ∧ _)
      have hR' := hMd.cell
      unfold Tb.cells at hR'
      have r0 := cells_at hR' 0 _ rfl
      have r1 := cells_at hR' 1 _ rfl
      have r2 := cells_at hR' 2 _ rfl
      have r3 := cells_at hR' 3 _ rfl
      have r4 := cells_at hR' 4 _ rfl
      simp only [List.getElem_toArray, List.getElem_cons_succ, List.getElem_cons_zero] at r0 r1 r2 r3 r4
      have hlr := heap_lt hR'
      clear htk hMd hR'
      go_upto_region 11 with (fail)
      go_wp2_with fail
      refine HTK.out.1.mono ?_
      rintro e w6 ⟨hb6, hcase⟩
      have hM6 := HTK.out.2.below hb6
      rcases hcase with ⟨hmay, vp6, vs6, rfl, ht6, hf1, hf2⟩ | ⟨hmay, vp6, vs6, rfl, ht6⟩
      · obtain ⟨U, hU⟩ : ∃ U, U = T'.took v := ⟨_, rfl⟩
        obtain ⟨hs1, hs2, hs3⟩ := took_spare hmay
        have huok := took_ok hM6.ok hmay
        rw [← hU] at hs1 hs2 huok ht6 ⊢
        have hupl : U.place.length = pl := by rw [hs2]; exact hM6.pl
        obtain ⟨ap6, kp6, rfl, -, -⟩ := ht6.p.form
        obtain ⟨ax6, kx6, rfl, -, -⟩ := ht6.s.form
        have hnext : j + 1 ≤ xs.length := HH.out.2.2.2.2.2
        obtain ⟨n6, hn6⟩ : ∃ n6, n6 = w6.heap.size := ⟨_, rfl⟩
        obtain ⟨w7, hw7⟩ : ∃ w7, w7 = w6.alloc (.cells (U.cells (.slice ap6 U.place.length kp6) (.slice ax6 U.spare.length kx6)) 57) := ⟨_, rfl⟩
        have hb67 : Below w6.heap.size w6 w7 := by rw [hw7]; exact (Below.refl _ _).alloc (Nat.le_refl _) _
        have hN7 : w7.heap[n6]? = some (.cells (U.cells (.slice ap6 U.place.length kp6) (.slice ax6 U.spare.length kx6)) 57 (0, 0)) := by rw [hw7]; exact heap_is hn6
        have hM7 := hM6.below hb67
        have hU7 := ht6.below hb67
        have hchk := tcheck_calls 3 b 4 256 U _ _ w7 hU7 HQ.out.2.2.1 (by have := huok.len; have := HH.out.2.2.2.2.1; omega) (by have := huok.len; have := HH.out.2.2.2.2.1; omega)
        unfold tabV Tb.cells TCheckEnds at hchk
        rw [show U.err b = 0 from if_pos huok] at hchk
        have hrr : r < wr.drew.heap.size := heap_lt HTK.out.2.cell
        have h67 : r ≠ n6 := by have := heap_lt (heap_keep hb6 HTK.out.2.cell); omega
        have hw4' : IntKind.i64.wrap ((T'.spare.length : Int) - 1) = (U.spare.length : Int) := by
          rw [show ((T'.spare.length : Int) - 1) = (U.spare.length : Int) by omega]
          exact IntWalk.i64_in _ (by have := huok.len; have := HH.out.2.2.2.2.1; omega)
        have eg2 : 0 < T'.spare.length := by omega
        have HM6 := Lib.hid (⟨hM7, hU7, hf1, hf2, hnext, hchk, huok, hupl, hN7, hrr, h67⟩ : _ ∧ _ ∧ _ ∧ _ ∧ _ ∧ _ ∧ _ ∧ _ ∧ _ ∧ _ ∧ _)
        have HW7 := Lib.hid hw7
        clear hM6 hM7 hU7 hf1 hf2 hnext hchk huok hupl hN7 hrr h67 hw7 hb67 ht6 hU hs1 hs2 hs3 hmay hb6 HTK r0 r1 r2 r3 r4 hlr
        unfold tabV
        unfold Tb.cells at HW7 ⊢
        go_upto_region 12 with (fail)
        rw [← hn6, ← HW7.out]
        clear hn6 HW7
        have hN7 := HM6.out.2.2.2.2.2.2.2.2.1
        unfold Tb.cells at hN7
        have hG7 := HM6.out.1.geo
        have g0 := cells_at hG7 0 _ rfl
        have g1 := cells_at hG7 1 _ rfl
        have g2 := cells_at hG7 2 _ rfl
        have g3 := cells_at hG7 3 _ rfl
        have u0 := cells_at hN7 0 _ rfl
        have u1 := cells_at hN7 1 _ rfl
        have u2 := cells_at hN7 2 _ rfl
        have u3 := cells_at hN7 3 _ rfl
        have u4 := cells_at hN7 4 _ rfl
        simp only [List.getElem_toArray, List.getElem_cons_succ, List.getElem_cons_zero] at g0 g1 g2 g3 u0 u1 u2 u3 u4
        have hlg := heap_lt hG7
        have hln := heap_lt hN7
        clear hG7 hN7
        have hwj : wrap64 ((j : Int) + 1) = ((j + 1 : Nat) : Int) := by have := HGT.out; have := HM6.out.2.2.2.2.1; unfold wrap64; omega
        go_upto_region 15 with (fail)
        clear eg2
        go_wp2_with fail
        refine HM6.out.2.2.2.2.2.1.mono ?_
        rintro e w8 ⟨rfl, hb8⟩
        have hN8 := heap_keep hb8 HM6.out.2.2.2.2.2.2.2.2.1
        have hR8 := heap_keep hb8 HM6.out.1.cell
        unfold Tb.cells at hN8 hR8
        clear g0 g1 g2 g3 u0 u1 u2 u3 u4 hlg hln
        have u0 := cells_at hN8 0 _ rfl
        have u1 := cells_at hN8 1 _ rfl
        have u2 := cells_at hN8 2 _ rfl
        have u3 := cells_at hN8 3 _ rfl
        have u4 := cells_at hN8 4 _ rfl
        have r0 := cells_at hR8 0 _ rfl
        have r1 := cells_at hR8 1 _ rfl
        have r2 := cells_at hR8 2 _ rfl
        have r3 := cells_at hR8 3 _ rfl
        have r4 := cells_at hR8 4 _ rfl
        have f0 := froz_at hR8 0
        have f1 := froz_at hR8 1
        have f2 := froz_at hR8 2
        have f3 := froz_at hR8 3
        have f4 := froz_at hR8 4
        simp only [List.getElem_toArray, List.getElem_cons_succ, List.getElem_cons_zero] at u0 u1 u2 u3 u4 r0 r1 r2 r3 r4
        have hln := heap_lt hN8
        have hlr := heap_lt hR8
        have h67 := HM6.out.2.2.2.2.2.2.2.2.2.2
        have HB8 := Lib.hid hb8
        clear hb8 hN8 hR8
        go_wp2_with fail
        obtain ⟨hM7, hU7, hf1, hf2, hnext, -, huok, hupl, -, hrr, -⟩ := HM6.out
        have hM8 := hM7.below HB8.out
        have hO := only5 w8 r (.int .u32 U.seq) (.slice ap6 U.place.length kp6) (.slice ax6 U.spare.length kx6) (.int .i64 U.t0) (.int .i64 U.t1)
        have hqr := HQ.out.1.1
        have hwq := HQ.out.1.2
        have hbel := put5 hM8.bel r (.int .u32 U.seq) (.slice ap6 U.place.length kp6) (.slice ax6 U.spare.length kx6) (.int .i64 U.t0) (.int .i64 U.t1) (by omega)
        have hcell := set5 (.int .u32 U.seq) (.slice ap6 U.place.length kp6) (.slice ax6 U.spare.length kx6) (.int .i64 U.t0) (.int .i64 U.t1) hM8.cell
        have hU9 := (hU7.below HB8.out).fresh hf1 hf2 hO (fun b hb => by rw [hb]; exact hrr)
        have hM9 := MInv.mk hbel (hO.at hM8.geo (by omega)) hcell hU9 huok (hupl.trans HH.out.2.2.1) (HQ.out.2.2.2.below hbel)
        go_roundw
        case rel => exact ⟨j + 1, U, _, _, hnext, (by rw [hwj]), rfl, hM9⟩
        case measure =>
          rw [hwj]
          show xs.length - ((j + 1 : Nat) : Int).toNat < xs.length - (j : Int).toNat
          omega
      · have hsp : T'.spare.length = 0 := by
          rcases Nat.eq_zero_or_pos T'.spare.length with h | h
          · exact h
          · exact absurd ⟨h, HH.out.2.1.2.1, by rw [hM6.pl]; exact HH.out.2.1.2.2⟩ hmay
        obtain ⟨ap6, kp6, rfl, -, -⟩ := ht6.p.form
        obtain ⟨ax6, kx6, rfl, -, -⟩ := ht6.s.form
        have hnext : j + 1 ≤ xs.length := HH.out.2.2.2.2.2
        have hMe := hM6.below ((Below.refl _ _).alloc (Nat.le_refl _) (.cells (T'.cells (.slice ap6 T'.place.length kp6) (.slice ax6 T'.spare.length kx6)) 57))
        have hMe' := fun h : pl = T.place.length => by rw [h] at hMe; exact hMe
        replace hMe := hMe' HH.out.2.2.1
        have HM6 := Lib.hid (⟨hMe, hnext⟩ : _ ∧ _)
        unfold tabV Tb.cells
        have eg : decide ((0 : Int) < (T'.spare.length : Int)) = false := by simp [hsp]
        have eg2 : ¬ 0 < T'.spare.length := by omega
        have hwj : wrap64 ((j : Int) + 1) = ((j + 1 : Nat) : Int) := by have := HGT.out; unfold wrap64; omega
        clear hM6 hMe hMe' hsp hnext hmay ht6 hb6 HTK r0 r1 r2 r3 r4 hlr
        go_wp2_with fail
        go_roundw
        case rel => exact ⟨j + 1, T', _, _, HM6.out.2, (by rw [hwj]), rfl, HM6.out.1⟩
        case measure =>
          have := HM6.out.2
          rw [hwj]
          show xs.length - ((j + 1 : Nat) : Int).toNat < xs.length - (j : Int).toNat
          omega
    · obtain rfl : j = xs.length := by omega
      have HE := Lib.hid (HF.out _ hM.bel)
      clear hM hlt hj
      go_wp2_with fail
      exact HE.out

set_option maxRecDepth 100000 in
theorem walk {H : Type} (enc : TypeId × Value → H) (W : World) (base : Nat) (v0 : Value) (d0 : DataW H) (p0 : List MemPlace)
    (hv0 : Value.okWide Try.prog W .any base 87 v0) (h0 : DataW.Trod enc Try.prog W 0 (fun _ => true) true 87 v0 d0 p0)
    (_hsz : (DataW.weightsEach Try.prog [87] [d0]).all (· ≤ reachBytes) = true) :
    Calls Try.prog 8 #[v0] W fun e W' => e = .returned (.bool true) ∧ Below W.heap.size W W' := by
  obtain ⟨blocks, turn, spare, r, xs, rfl, h1⟩ := open_many h0 hv0
  exact law blocks turn spare r xs W h1
end Go.Proofs.Ytogejjbclimjjaa.lawRemapMany
