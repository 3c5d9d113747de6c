/- MemberPlains: the walk. -/
--only r2
import Derived.Test.YtogejjbclimjjaaMsLaw
import Derived.Test.YtogejjbclimjjaaMsFirst
import Derived.Test.YtogejjbclimjjaaOpenI
import Derived.OpenShut
namespace Go.Proofs.Ytogejjbclimjjaa.lawMemberPlains
set_option linter.unusedVariables false
set_option linter.unusedSimpArgs false
open Go.RowKit Go.ChangeShapes Go.WideShapes Go.Deep

set_option maxRecDepth 100000 in
theorem open_mplains {H : Type} {enc : TypeId × Value → H} {W : World} {v : Value} {d : DataW H} {p : List MemPlace} {base : Nat}
    (h : DataW.Trod enc Try.prog W 0 (fun _ => true) true 50 v d p) (hv : Value.okWide Try.prog W .any base 50 v) :
    ∃ (chips swp dead done : Int) (seq : Nat), v = .agg #[.int .i64 chips, .int .i64 swp, .int .i64 dead, .int .i64 done, .int .u32 seq] ∧ seq < 4294967296 ∧ -9223372036854775808 ≤ dead ∧ dead ≤ 9223372036854775807 := by
  obtain ⟨cs, rfl, hs⟩ := okWide_struct Try.underlying50 hv
  obtain ⟨fuel, hf⟩ := h
  obtain ⟨ys, n, rfl, hy, hlen, hyl, hff⟩ := DataW.trod_struct Try.underlying50 hf
  have hsz : cs.size = 5 := hs.trans (by kernel_rfl)
  obtain ⟨cl⟩ := cs
  match cl, hsz with
  | [x0, x1, x2, x3, x4], _ =>
    obtain ⟨y0, y1, y2, y3, y4, rfl⟩ : ∃ y0 y1 y2 y3 y4, ys = [y0, y1, y2, y3, y4] := by
      match ys, hyl with
      | [y0, y1, y2, y3, y4], _ => exact ⟨y0, y1, y2, y3, y4, rfl⟩
    have t0 : DataW.trod enc Try.prog W 0 (fun _ => true) true n 3 (List.take (Try.prog.cellsOf 3) [x0, x1, x2, x3, x4]) = some y0 := hff 0 _ rfl
    have t1 : DataW.trod enc Try.prog W 0 (fun _ => true) true n 3 (List.take (Try.prog.cellsOf 3) [x1, x2, x3, x4]) = some y1 := hff 1 _ rfl
    have t2 : DataW.trod enc Try.prog W 0 (fun _ => true) true n 3 (List.take (Try.prog.cellsOf 3) [x2, x3, x4]) = some y2 := hff 2 _ rfl
    have t3 : DataW.trod enc Try.prog W 0 (fun _ => true) true n 3 (List.take (Try.prog.cellsOf 3) [x3, x4]) = some y3 := hff 3 _ rfl
    have t4 : DataW.trod enc Try.prog W 0 (fun _ => true) true n 35 (List.take (Try.prog.cellsOf 35) [x4]) = some y4 := hff 4 _ rfl
    rw [show Try.prog.cellsOf 3 = 1 by kernel_rfl] at t0 t1 t2 t3
    rw [show Try.prog.cellsOf 35 = 1 by kernel_rfl] at t4
    obtain ⟨z0, f0, _, w0⟩ := DataW.trod_int Try.underlying3 t0
    obtain ⟨z1, f1, _, w1⟩ := DataW.trod_int Try.underlying3 t1
    obtain ⟨z2, f2, _, w2⟩ := DataW.trod_int Try.underlying3 t2
    obtain ⟨z3, f3, _, w3⟩ := DataW.trod_int Try.underlying3 t3
    obtain ⟨z4, f4, _, w4⟩ := DataW.trod_int Try.underlying35 t4
    simp only [List.take, List.cons.injEq, and_true] at f0 f1 f2 f3 f4
    subst f0 f1 f2 f3 f4
    have := lit_u32 w4
    have h2 := lit_i64 w2
    exact ⟨z0, z1, z2, z3, z4.toNat, by rw [Int.toNat_of_nonneg this.1], by omega, h2⟩

/-- the law's own blocks: shape and set -/
structure QInv (w : World) (q r n B : Nat) (S : Ms) (cv : Value) (wr : World) : Prop where
  bel : Below w.heap.size w wr
  geo : wr.heap[q]? = some (.cells #[.int .i64 n, .int .i64 20, .int .i64 6, .int .i64 256] 28 (0, 0))
  cell : wr.heap[r]? = some (.cells (S.cells cv) 37 (0, 0))
  own : wr.ownsRow B 3 1 cv S.chips.length (S.chips.map i64v)
  lo : w.heap.size ≤ B ∧ w.heap.size ≤ r
  ne : q ≠ r ∧ q < B ∧ B ≤ r
  rw : ∀ g, cv.ownBlock = some g → g ≠ r

theorem QInv.drew {w : World} {q r n B : Nat} {S : Ms} {cv : Value} {wr : World} (h : QInv w q r n B S cv wr) : QInv w q r n B S cv wr.drew :=
  ⟨h.bel.drew, h.geo, h.cell, h.own, h.lo, h.ne, h.rw⟩
theorem QInv.below {w : World} {q r n B : Nat} {S : Ms} {cv : Value} {wr wn : World} (h : QInv w q r n B S cv wr) (hb : Below wr.heap.size wr wn) : QInv w q r n B S cv wn :=
  ⟨h.bel.trans (hb.mono h.bel.size), heap_keep hb h.geo, heap_keep hb h.cell, own_only h.own (Only.new hb fun _ => False) (fun _ _ => id), h.lo, h.ne, h.rw⟩
theorem QInv.put {w : World} {q r n B : Nat} {S S' : Ms} {cv : Value} {wr : World} (h : QInv w q r n B S cv wr) (i : Nat) (u : Value) (hc : (S.cells cv).setIfInBounds i u = S'.cells cv) (hch : S'.chips = S.chips) : QInv w q r n B S' cv (wr.setCell ⟨r, i, none⟩ u) :=
  ⟨h.bel.setCell h.lo.2 u, set_other (a := ⟨r, i, none⟩) u h.geo h.ne.1, by rw [← hc]; exact set_at h.cell u, by rw [hch]; exact own_only h.own (Only.of_set wr ⟨r, i, none⟩ u) (fun b hb e => h.rw b hb e), h.lo, h.ne, h.rw⟩
theorem swap_cells (n k seq : Nat) (d e : Int) (cv : Value) : (Ms.swap n k seq d e).cells cv = #[.int .u32 seq, cv, .int .i64 (Ms.swap n k 1 255 0).spare, .int .i64 d, .int .i64 e] := by
  unfold Ms.swap; split <;> rfl
theorem swap_chips (n k seq : Nat) (d e : Int) : (Ms.swap n k seq d e).chips = (Ms.swap n k 1 255 0).chips := by
  unfold Ms.swap; split <;> rfl
theorem swap_length (n k seq : Nat) (d e : Int) : (Ms.swap n k seq d e).chips.length = n := by
  unfold Ms.swap; split
  · simp [upTo_length]
  · exact upTo_length n

set_option maxRecDepth 100000 in
set_option maxHeartbeats 4000000 in
theorem law (chips swp dead done : Int) (seq : Nat) (w : World) (hsq : seq < 4294967296) (hdr : -9223372036854775808 ≤ dead ∧ dead ≤ 9223372036854775807) :
    Calls Try.prog 4 #[.agg #[.int .i64 chips, .int .i64 swp, .int .i64 dead, .int .i64 done, .int .u32 seq]] w fun e w' => e = .returned (.bool true) ∧ Below w.heap.size w w' := by
  have hfin : ∀ w', Below w.heap.size w w' → (fun e w' => e = Ending.returned (.bool true) ∧ Below w.heap.size w w') (.returned (.bool true)) w' := fun w' hb => ⟨rfl, hb⟩
  generalize (fun (e : Ending) (w' : World) => e = Ending.returned (.bool true) ∧ Below w.heap.size w w') = Post at hfin ⊢
  have HF := Lib.hid hfin
  have h0 : (w.alloc (.cells #[.int .i64 chips, .int .i64 swp, .int .i64 dead, .int .i64 done, .int .u32 seq] 50)).heap[w.heap.size]? = some (.cells #[.int .i64 chips, .int .i64 swp, .int .i64 dead, .int .i64 done, .int .u32 seq] 50 (0, 0)) := heap_is rfl
  have c0 := cells_at h0 0 _ rfl
  have c1 := cells_at h0 1 _ rfl
  have c2 := cells_at h0 2 _ rfl
  have c3 := cells_at h0 3 _ rfl
  have c4 := cells_at h0 4 _ rfl
  simp only [List.getElem_toArray, List.getElem_cons_succ, List.getElem_cons_zero] at c0 c1 c2 c3 c4
  have hl0 := heap_lt h0
  have HD := Lib.hid (⟨hsq, hdr⟩ : _ ∧ _)
  clear hfin h0 hsq hdr
  go_enter Try.func4, Try.ntmps4
  go_upto_region 1 with (fail)
  (refine wp_region_mix [0, 1, 2, 3, 4, 5, 6, 7, 8, 9, 10, 11, 12, 13, 14] [(true, true), (true, false), (true, true), (true, false), (true, true), (true, false), (true, true), (true, false), (true, true), (true, false), (true, true), (true, true), (true, true), (true, true), (true, true)] [0, 1, 0, 4, 0, 16, 0, 64, 0, 256, 3, 1039, 3135, 7423, 16383] _ (by kernel_rfl) (by kernel_rfl) (rfl : _ = _) ?_; simp only [pickL, List.map_cons, List.map_nil, List.getD_cons_succ, List.getD_cons_zero])
  (repeat (first | (refine mix_pure (fun hne K hK => ?_); go_simp; refine hK _ ?_; clear hK K hne) | (refine mix_load ?_ (fun K hK => ?_); (focus (first | rfl | (go_simp; done))); go_simp; refine hK _ ?_; clear hK K) | (refine mix_skip ?_ (fun K hK => ?_); (focus (first | rfl | (go_simp; done))); go_simp; refine hK _ ?_; clear hK K)))
  refine mix_done ?_
  go_wp2_with fail
  refine (msfirst_law _).mono ?_
  rintro e w1 ⟨rfl, hb1⟩
  have hbw1 : Below w.heap.size w w1 := ((Below.refl w.heap.size w).alloc (Nat.le_refl _) _).drew.trans (hb1.mono (Nat.le_of_lt hl0))
  obtain ⟨k0, hk0, -, hsh⟩ := mshape_calls chips w1
  obtain ⟨n, hn⟩ : ∃ n, n = 3 + k0 := ⟨_, rfl⟩
  rw [← hn] at hsh
  have hn16 : 3 ≤ n ∧ n ≤ 16 := by omega
  rw [show geoV ((n : Nat) : Int) ((20 : Nat) : Int) ((6 : Nat) : Int) ((256 : Nat) : Int) = .agg #[.int .i64 n, .int .i64 20, .int .i64 6, .int .i64 256] from rfl] at hsh
  have H1 := Lib.hid (⟨hsh, hbw1⟩ : _ ∧ _)
  clear hsh hbw1 hb1 hn hk0 c0 c1 c2 c3 c4 hl0
  go_upto_region 4 with (fail)
  go_wp2_with fail
  refine H1.out.1.mono ?_
  rintro e w2 ⟨rfl, hb2⟩
  obtain ⟨q, hq⟩ : ∃ q, q = w2.heap.size := ⟨_, rfl⟩
  obtain ⟨w3, hw3⟩ : ∃ w3, w3 = w2.alloc (.cells #[.int .i64 n, .int .i64 20, .int .i64 6, .int .i64 256] 28) := ⟨_, rfl⟩
  have hb23 : Below w2.heap.size w2 w3 := by rw [hw3]; exact (Below.refl _ _).alloc (Nat.le_refl _) _
  have hG3 : w3.heap[q]? = some (.cells #[.int .i64 n, .int .i64 20, .int .i64 6, .int .i64 256] 28 (0, 0)) := by rw [hw3]; exact heap_is hq
  have hB3 := H1.out.2.trans ((hb2.trans (hb23.mono hb2.size)).mono H1.out.2.size)
  have hf := msfirst_calls n 20 6 256 w3 (by omega) (by omega)
  rw [show geoV ((n : Nat) : Int) ((20 : Nat) : Int) ((6 : Nat) : Int) ((256 : Nat) : Int) = .agg #[.int .i64 n, .int .i64 20, .int .i64 6, .int .i64 256] from rfl] at hf
  have hql : q < w3.heap.size := heap_lt hG3
  have H3 := Lib.hid (⟨hf, hB3, hG3, hql⟩ : _ ∧ _ ∧ _ ∧ _)
  have HW3 := Lib.hid hw3
  have g0 := cells_at hG3 0 _ rfl
  have g1 := cells_at hG3 1 _ rfl
  have g2 := cells_at hG3 2 _ rfl
  have g3 := cells_at hG3 3 _ rfl
  simp only [List.getElem_toArray, List.getElem_cons_succ, List.getElem_cons_zero] at g0 g1 g2 g3
  have hlg := heap_lt hG3
  clear hf hB3 hG3 hw3 hb2 hb23 hql H1
  go_upto_region 5 with (fail)
  rw [← hq, ← HW3.out]
  clear hq HW3
  go_wp2_with fail
  refine H3.out.1.mono ?_
  rintro e w4 ⟨cv, rfl, hown, hb4⟩
  obtain ⟨ca, ck, rfl⟩ := own_slice hown
  obtain ⟨r, hr⟩ : ∃ r, r = w4.heap.size := ⟨_, rfl⟩
  obtain ⟨B, hBB⟩ : ∃ B, B = w3.heap.size := ⟨_, rfl⟩
  obtain ⟨w5, hw5⟩ : ∃ w5, w5 = w4.alloc (.cells #[.int .u32 1, .slice ca n ck, .int .i64 n, .int .i64 255, .int .i64 0] 37) := ⟨_, rfl⟩
  have hb45 : Below w4.heap.size w4 w5 := by rw [hw5]; exact (Below.refl _ _).alloc (Nat.le_refl _) _
  have hb35 := hb4.trans (hb45.mono hb4.size)
  have hQ5 : QInv w q r n B (Ms.one n) (.slice ca n ck) w5 := by
    refine ⟨H3.out.2.1.trans (hb35.mono H3.out.2.1.size), heap_keep hb35 H3.out.2.2.1, by rw [hw5]; exact heap_is hr, ?_, ⟨by rw [hBB]; exact H3.out.2.1.size, by rw [hr]; exact Nat.le_trans H3.out.2.1.size hb4.size⟩, ⟨?_, by rw [hBB]; exact H3.out.2.2.2, by rw [hBB, hr]; exact hb4.size⟩, fun g hg => by have := (hown.lt g hg).2; omega⟩
    · show w5.ownsRow B 3 1 _ (upTo n).length ((upTo n).map i64v)
      rw [upTo_length, hBB]
      exact own_only hown (Only.new hb45 fun _ => False) (fun _ _ => id)
    · have := H3.out.2.2.2
      have := hb4.size
      omega
  have HQ5 := Lib.hid hQ5
  have HW5 := Lib.hid hw5
  clear hown hb4 hb45 hb35 hQ5 hw5 hBB g0 g1 g2 g3 hlg H3
  unfold Ms.val Ms.cells Ms.one
  go_upto_region 6 with (fail)
  rw [← hr, ← HW5.out]
  clear hr HW5
  obtain ⟨k, hk, hpick⟩ := pick_eq swp (n + 1) (by omega) (by omega)
  rw [show ((n + 1 : Nat) : Int) = (n : Int) + 1 from by omega, ← IntWalk.i64_left] at hpick
  have hw1' : IntKind.i64.wrap ((n : Int) + 1) = (n : Int) + 1 := IntWalk.i64_in _ (by omega)
  have hw2' : IntKind.u64.wrap ((n : Int) + 1) = (n : Int) + 1 := by rw [IntKind.wrap_u64]; omega
  have hz' : ((n : Int) + 1 == 0) = false := by rw [beq_eq_false_iff_ne]; omega
  have hz2' : ¬ ((n : Int) + 1 = 0) := by omega
  have hG5 := HQ5.out.geo
  have g0 := cells_at hG5 0 _ rfl
  simp only [List.getElem_toArray, List.getElem_cons_zero] at g0
  have hlg := heap_lt hG5
  clear hG5
  go_upto_if 43 with (fail)
  clear hz' hz2' hw1' hw2' hpick
  go_cut [] (fun wx => QInv w q r n B (Ms.swap n k 1 255 0) (.slice ca n ck) wx)
  case first =>
    by_cases hlt : k < n
    · have hkn : (k : Int) < (n : Int) := by omega
      have hk0 : (0 : Int) ≤ (k : Int) := by omega
      have hown := HQ5.out.own
      have hown' : w5.ownsRow B 3 1 (.slice ca n ck) n ((upTo n).map i64v) := by have h := hown; rw [show (Ms.one n).chips.length = n from upTo_length n] at h; exact h
      rcases hown'.2 with ⟨-, h0⟩ | ⟨gb, cap, cur, he, -⟩
      · exfalso; omega
      simp only [Value.slice.injEq] at he
      obtain ⟨rfl, -, rfl⟩ := he
      have hck := hown'.cellAt (j := k) (by omega)
      have hcv : ((upTo n).map i64v)[k]? = some (i64v (k : Int)) := by simp [upTo, hlt]
      rw [hcv] at hck
      have hfk := hown'.frozenAt k
      have hst := (hown'.stored k (i64v (n : Int)))
      have hgr : gb ≠ r := HQ5.out.rw gb rfl
      have hrg : r ≠ gb := fun e => hgr e.symm
      have hR5 := HQ5.out.cell
      unfold Ms.cells Ms.one at hR5
      simp only at hR5
      have r1 := cells_at hR5 1 _ rfl
      have r2 := cells_at hR5 2 _ rfl
      have f2 := froz_at hR5 2
      simp only [List.getElem_toArray, List.getElem_cons_succ, List.getElem_cons_zero] at r1 r2
      have hlr := heap_lt hR5
      have hlgb := cell_lt hck
      have hset := set_at (o := 2) (set_other (a := ⟨gb, k, none⟩) (i64v (n : Int)) hR5 hrg) (.int .i64 k)
      simp only [List.setIfInBounds_toArray, List.set_cons_zero, List.set_cons_succ] at hset
      have hgeo := set_other (a := ⟨r, 2, none⟩) (.int .i64 k) (set_other (a := ⟨gb, k, none⟩) (i64v (n : Int)) HQ5.out.geo (fun e => by have := (hown'.lt gb rfl).1; have e' : q = gb := e; have := HQ5.out.ne.2.1; omega)) HQ5.out.ne.1
      have hon := own_only hst.1 (Only.of_set _ ⟨r, 2, none⟩ (.int .i64 k)) (fun b hb e => HQ5.out.rw b hb e)
      have hbl : Below w.heap.size w ((w5.setCell ⟨gb, k, none⟩ (i64v (n : Int))).setCell ⟨r, 2, none⟩ (.int .i64 k)) := (HQ5.out.bel.setCell (Nat.le_trans HQ5.out.lo.1 (hown'.lt gb rfl).1) _).setCell HQ5.out.lo.2 _
      have hswap : Ms.swap n k 1 255 0 = ⟨1, (upTo n).set k n, k, 255, 0⟩ := if_pos hlt
      have hQ6 : QInv w q r n B (Ms.swap n k 1 255 0) (.slice (some ⟨gb, 0, none⟩) n ck) ((w5.setCell ⟨gb, k, none⟩ (i64v (n : Int))).setCell ⟨r, 2, none⟩ (.int .i64 k)) := by
        rw [hswap]
        refine ⟨hbl, hgeo, hset, ?_, HQ5.out.lo, HQ5.out.ne, HQ5.out.rw⟩
        show World.ownsRow _ B 3 1 _ ((upTo n).set k n).length (((upTo n).set k n).map i64v)
        rw [List.length_set, upTo_length, List.map_set]
        exact hon
      have HQ6 := Lib.hid hQ6
      clear hown hown' hcv hst hset hgeo hon hbl hswap hQ6 hR5
      go_wp2_with fail
      (refine wp_region_mix [0, 1, 2, 3, 4, 5, 6, 7, 8, 9, 10, 11, 12, 13] [(true, true), (true, false), (true, true), (true, true), (true, false), (true, true), (true, false), (true, true), (true, true), (true, false), (true, true), (false, false), (true, true), (false, false)] [0, 1, 0, 0, 8, 0, 32, 0, 224, 480, 1023, 2047, 4095, 8191] _ (by kernel_rfl) (by kernel_rfl) (rfl : _ = _) ?_; simp only [pickL, List.map_cons, List.map_nil, List.getD_cons_succ, List.getD_cons_zero])
      (repeat (first | (refine mix_pure (fun hne K hK => ?_); go_simp; refine hK _ ?_; clear hK K hne) | (refine mix_load ?_ (fun K hK => ?_); (focus (first | rfl | (go_simp; done))); go_simp; refine hK _ ?_; clear hK K) | (refine mix_skip ?_ (fun K hK => ?_); (focus (first | rfl | (go_simp; done))); go_simp; refine hK _ ?_; clear hK K)))
      (refine mix_one (by first | rfl | (go_simp; done)) (fun R hR hX => ?_))
      go_wp2_with fail
      ((try simp only [wpList]); refine hR _ _ rfl ⟨fun w' => w' = _, rfl, (fun h => by cases h), ?_⟩; clear hR hX R)
      (repeat (first | (refine mix_pure (fun hne K hK => ?_); go_simp; refine hK _ ?_; clear hK K hne) | (refine mix_load ?_ (fun K hK => ?_); (focus (first | rfl | (go_simp; done))); go_simp; refine hK _ ?_; clear hK K) | (refine mix_skip ?_ (fun K hK => ?_); (focus (first | rfl | (go_simp; done))); go_simp; refine hK _ ?_; clear hK K)))
      (refine mix_one (by first | rfl | (go_simp; done)) (fun R hR hX => ?_))
      go_wp2_with fail
      ((try simp only [wpList]); refine hR _ _ rfl ⟨fun w' => w' = _, rfl, (fun h => by cases h), ?_⟩; clear hR hX R)
      refine mix_done ?_
      go_wp2_with fail
      go_meet
      exact HQ6.out.drew
    · obtain rfl : k = n := by omega
      have hsw : Ms.swap k k 1 255 0 = Ms.one k := if_neg (by omega)
      have HQ6 := Lib.hid (show QInv w q r k B (Ms.swap k k 1 255 0) (.slice ca k ck) w5 by rw [hsw]; exact HQ5.out)
      clear hsw
      go_wp2_with fail
      go_meet
      exact HQ6.out
  case rest =>
    have hC := hcut.cell
    rw [swap_cells] at hC
    obtain ⟨sp, hsp⟩ : ∃ sp, sp = (Ms.swap n k 1 255 0).spare := ⟨_, rfl⟩
    rw [← hsp] at hC
    have hQ7 := hcut.put (S' := Ms.swap n k seq 255 0) 0 (.int .u32 seq) (by rw [swap_cells, swap_cells]; simp) (swap_chips _ _ _ _ _)
    have HQ7 := Lib.hid (⟨hQ7, hsp⟩ : _ ∧ _)
    have r0 := cells_at hC 0 _ rfl
    have f0 := froz_at hC 0
    simp only [List.getElem_toArray, List.getElem_cons_zero] at r0
    have hlr := heap_lt hC
    clear hC hQ7 hsp hcut HQ5 g0 hlg
    go_upto_region 10 with (fail)
    clear r0 f0 hlr
    generalize wc.setCell ⟨r, 0, none⟩ (.int .u32 seq) = w7 at HQ7 ⊢
    have hC := HQ7.out.1.cell
    rw [swap_cells, ← HQ7.out.2] at hC
    have hG := HQ7.out.1.geo
    have g0 := cells_at hG 0 _ rfl
    have r3 := cells_at hC 3 _ rfl
    have r4 := cells_at hC 4 _ rfl
    have f3 := froz_at hC 3
    have f4 := froz_at hC 4
    simp only [List.getElem_toArray, List.getElem_cons_succ, List.getElem_cons_zero] at g0 r3 r4
    have hlr := heap_lt hC
    have hlg := heap_lt hG
    clear hC hG
    go_upto_if 59 with (fail)
    go_cut [] (fun wx => ∃ (dd dn : Int), QInv w q r n B (Ms.swap n k seq dd dn) (.slice ca n ck) wx ∧ (dd = 255 ∧ dn = 0 ∨ (0 ≤ dd ∧ dd < n) ∧ 0 ≤ dn ∧ dn ≤ ((20 : Nat) : Int) - 5))
    case first =>
      by_cases hd0 : 0 ≤ dead
      · have ed : decide ((0 : Int) ≤ dead) = true := by simp; omega
        obtain ⟨m, hm⟩ : ∃ m, m = dead.tmod (n : Int) := ⟨_, rfl⟩
        have hmn : 0 ≤ m ∧ m < n := by
          rw [hm, Int.tmod_eq_emod_of_nonneg hd0]
          exact ⟨Int.emod_nonneg _ (by omega), Int.emod_lt_of_pos _ (by omega)⟩
        have ew : IntKind.i64.wrap m = m := IntWalk.i64_in _ (by omega)
        have em : dead.tmod (n : Int) = m := hm.symm
        have en : ¬ ((n : Int) = 0) := by omega
        have en2 : ((n : Int) == 0) = false := by rw [beq_eq_false_iff_ne]; omega
        obtain ⟨j, hj, hpj⟩ := pick_eq done 16 (by omega) (by omega)
        rw [show ((16 : Nat) : Int) = 16 from rfl, ← IntWalk.i64_left] at hpj
        have hQ8 := (HQ7.out.1.put (S' := Ms.swap n k seq m 0) 3 (.int .i64 m) (by rw [swap_cells, swap_cells]; simp) ((swap_chips _ _ _ _ _).trans (swap_chips _ _ _ _ _).symm)).put (S' := Ms.swap n k seq m j) 4 (.int .i64 j) (by rw [swap_cells, swap_cells]; simp) ((swap_chips _ _ _ _ _).trans (swap_chips _ _ _ _ _).symm)
        have HQ8 := Lib.hid (⟨hQ8, hmn⟩ : _ ∧ _)
        have HJ := Lib.hid hj
        have em2 : dead % (n : Int) = m := by rw [← Int.tmod_eq_emod_of_nonneg hd0]; exact em
        clear hQ8 hm
        go_wp2_with fail
        go_meet
        refine ⟨m, j, ?_, .inr ⟨HQ8.out.2, by omega, by have := HJ.out; omega⟩⟩
        exact HQ8.out.1
      · have ed : decide ((0 : Int) ≤ dead) = false := by simp; omega
        go_wp2_with fail
        go_meet
        exact ⟨255, 0, HQ7.out.1, .inl ⟨rfl, rfl⟩⟩
    case rest =>
      obtain ⟨dd, dn, hQ, hval⟩ := hcut
      have hok : (Ms.swap n k seq dd dn).Ok n 20 := swap_ok (by omega) (by omega) seq hval (by omega)
      have hgo : geoOk (n : Nat) (20 : Nat) (6 : Nat) (256 : Nat) := by unfold geoOk; omega
      obtain ⟨S, hS⟩ : ∃ S, S = Ms.swap n k seq dd dn := ⟨_, rfl⟩
      have hSn : S.chips.length = n := by rw [hS]; exact swap_length _ _ _ _ _
      have hSs : S.seq = seq := by rw [hS]; unfold Ms.swap; split <;> rfl
      rw [← hS] at hQ hok
      have hms : MsAt wc S (.slice ca n ck) := ⟨RV.own hQ.own, by rw [hSs]; exact HD.out.1⟩
      have hpg := mspage_calls n 20 6 256 S _ wc hms hgo hok
      have HQ := Lib.hid (⟨hQ, hok, hgo, hSn, hSs⟩ : _ ∧ _ ∧ _ ∧ _ ∧ _)
      have hmp := mparse_page (n := n) (b := 20) (p := 6) (s := 256) hok (by omega) (by omega) (by omega) (by omega) (by rw [hSs]; exact HD.out.1)
      have HMP := Lib.hid (⟨hmp, hms⟩ : _ ∧ _)
      obtain ⟨sq, xs, sp', dd', dn'⟩ := S
      rw [show geoV ((n : Nat) : Int) ((20 : Nat) : Int) ((6 : Nat) : Int) ((256 : Nat) : Int) = .agg #[.int .i64 n, .int .i64 20, .int .i64 6, .int .i64 256] from rfl] at hpg
      unfold Ms.val Ms.cells MPageEnds at hpg
      simp only at hpg
      have HPG := Lib.hid hpg
      have hC := hQ.cell
      have hG := hQ.geo
      unfold Ms.cells at hC
      simp only at hC
      have r0 := cells_at hC 0 _ rfl
      have r1 := cells_at hC 1 _ rfl
      have r2 := cells_at hC 2 _ rfl
      have r3 := cells_at hC 3 _ rfl
      have r4 := cells_at hC 4 _ rfl
      have g0 := cells_at hG 0 _ rfl
      have g1 := cells_at hG 1 _ rfl
      have g2 := cells_at hG 2 _ rfl
      have g3 := cells_at hG 3 _ rfl
      simp only [List.getElem_toArray, List.getElem_cons_succ, List.getElem_cons_zero] at r0 r1 r2 r3 r4 g0 g1 g2 g3
      have hlr := heap_lt hC
      have hlg := heap_lt hG
      clear hpg hC hG hQ hok hgo hSn hSs hS hms hmp hval
      go_wp2_with fail
      refine HPG.out.mono ?_
      rintro e wp ⟨x, y, rfl, hx, hy, hbp⟩
      obtain ⟨xa, xk, rfl, -, -⟩ := hx.form
      obtain ⟨ya, yk, rfl, -, -⟩ := hy.form
      have hpr := msparse_calls n 20 6 256 _ _ _ _ wp hx hy HQ.out.2.2.1
      unfold MParseEnds at hpr
      rw [HMP.out.1] at hpr
      rw [show geoV ((n : Nat) : Int) ((20 : Nat) : Int) ((6 : Nat) : Int) ((256 : Nat) : Int) = .agg #[.int .i64 n, .int .i64 20, .int .i64 6, .int .i64 256] from rfl] at hpr
      have hQp := HQ.out.1.below hbp
      have hmp2 := HMP.out.2.below hbp
      have HP := Lib.hid (⟨hpr, hQp, hmp2⟩ : _ ∧ _ ∧ _)
      have hG := hQp.geo
      clear r0 r1 r2 r3 r4 g0 g1 g2 g3 hlr hlg
      have g0 := cells_at hG 0 _ rfl
      have g1 := cells_at hG 1 _ rfl
      have g2 := cells_at hG 2 _ rfl
      have g3 := cells_at hG 3 _ rfl
      simp only [List.getElem_toArray, List.getElem_cons_succ, List.getElem_cons_zero] at g0 g1 g2 g3
      have hlg := heap_lt hG
      clear hG hpr hQp hmp2 hx hy hbp HPG
      generalize (msD ⟨sq, xs, sp', dd', dn'⟩ 20 6 256).length = dl at HP ⊢
      generalize (sealB (msH ⟨sq, xs, sp', dd', dn'⟩) (msD ⟨sq, xs, sp', dd', dn'⟩ 20 6 256) []).length = ol at HP ⊢
      go_wp2_with fail
      refine HP.out.1.mono ?_
      rintro e wq ⟨v, rfl, hms2, hbq⟩
      obtain ⟨va, vk, rfl, -, -⟩ := hms2.c.form
      obtain ⟨r2, hr2⟩ : ∃ r2, r2 = wq.heap.size := ⟨_, rfl⟩
      obtain ⟨we, hwe⟩ : ∃ we, we = wq.alloc (.cells #[.int .u32 sq, .slice va xs.length vk, .int .i64 sp', .int .i64 dd', .int .i64 dn'] 37) := ⟨_, rfl⟩
      have hbqe : Below wq.heap.size wq we := by rw [hwe]; exact (Below.refl _ _).alloc (Nat.le_refl _) _
      have hU : we.heap[r2]? = some (.cells #[.int .u32 sq, .slice va xs.length vk, .int .i64 sp', .int .i64 dd', .int .i64 dn'] 37 (0, 0)) := by rw [hwe]; exact heap_is hr2
      have hbpe := hbq.trans (hbqe.mono hbq.size)
      have hQe := HP.out.2.1.below hbpe
      have HE0 := Lib.hid (⟨hQe, hU, hms2.below hbqe, HP.out.2.2.below hbpe⟩ : _ ∧ _ ∧ _ ∧ _)
      have HWE := Lib.hid hwe
      have hCe := hQe.cell
      have hGe := hQe.geo
      unfold Ms.cells at hCe
      simp only at hCe
      have HCG := Lib.hid (⟨hCe, hGe⟩ : _ ∧ _)
      clear hQe hU hbpe hbqe hwe hms2 hbq HP HMP hCe hGe g0 g1 g2 g3 hlg
      unfold Ms.val Ms.cells
      simp only [show ((0 : Nat) : Int) = 0 from rfl]
      go_upto_region 14 with (fail)
      rw [← hr2, ← HWE.out]
      clear hr2 HWE
      have kr0 : ∀ w', Below we.heap.size we w' → w'.cell? ⟨r, 0, none⟩ = some (.int .u32 sq) := fun w' h => cells_at (heap_keep h HCG.out.1) 0 _ rfl
      have kr1 : ∀ w', Below we.heap.size we w' → w'.cell? ⟨r, 1, none⟩ = some (.slice ca n ck) := fun w' h => cells_at (heap_keep h HCG.out.1) 1 _ rfl
      have kr2 : ∀ w', Below we.heap.size we w' → w'.cell? ⟨r, 2, none⟩ = some (.int .i64 sp') := fun w' h => cells_at (heap_keep h HCG.out.1) 2 _ rfl
      have kr3 : ∀ w', Below we.heap.size we w' → w'.cell? ⟨r, 3, none⟩ = some (.int .i64 dd') := fun w' h => cells_at (heap_keep h HCG.out.1) 3 _ rfl
      have kr4 : ∀ w', Below we.heap.size we w' → w'.cell? ⟨r, 4, none⟩ = some (.int .i64 dn') := fun w' h => cells_at (heap_keep h HCG.out.1) 4 _ rfl
      have ku0 : ∀ w', Below we.heap.size we w' → w'.cell? ⟨r2, 0, none⟩ = some (.int .u32 sq) := fun w' h => cells_at (heap_keep h HE0.out.2.1) 0 _ rfl
      have ku1 : ∀ w', Below we.heap.size we w' → w'.cell? ⟨r2, 1, none⟩ = some (.slice va xs.length vk) := fun w' h => cells_at (heap_keep h HE0.out.2.1) 1 _ rfl
      have ku2 : ∀ w', Below we.heap.size we w' → w'.cell? ⟨r2, 2, none⟩ = some (.int .i64 sp') := fun w' h => cells_at (heap_keep h HE0.out.2.1) 2 _ rfl
      have ku3 : ∀ w', Below we.heap.size we w' → w'.cell? ⟨r2, 3, none⟩ = some (.int .i64 dd') := fun w' h => cells_at (heap_keep h HE0.out.2.1) 3 _ rfl
      have ku4 : ∀ w', Below we.heap.size we w' → w'.cell? ⟨r2, 4, none⟩ = some (.int .i64 dn') := fun w' h => cells_at (heap_keep h HE0.out.2.1) 4 _ rfl
      have kg0 : ∀ w', Below we.heap.size we w' → w'.cell? ⟨q, 0, none⟩ = some (.int .i64 n) := fun w' h => cells_at (heap_keep h HCG.out.2) 0 _ rfl
      have kg1 : ∀ w', Below we.heap.size we w' → w'.cell? ⟨q, 1, none⟩ = some (.int .i64 20) := fun w' h => cells_at (heap_keep h HCG.out.2) 1 _ rfl
      have kg2 : ∀ w', Below we.heap.size we w' → w'.cell? ⟨q, 2, none⟩ = some (.int .i64 6) := fun w' h => cells_at (heap_keep h HCG.out.2) 2 _ rfl
      have kg3 : ∀ w', Below we.heap.size we w' → w'.cell? ⟨q, 3, none⟩ = some (.int .i64 256) := fun w' h => cells_at (heap_keep h HCG.out.2) 3 _ rfl
      have hlr := heap_lt HCG.out.1
      have hlg := heap_lt HCG.out.2
      have hlu := heap_lt HE0.out.2.1
      (refine wp_region_mix [0, 1, 2, 3, 4, 5, 6, 7, 9, 8, 10, 11, 12, 13, 14, 15, 16, 17, 18, 19] [(true, true), (true, true), (true, true), (true, true), (true, true), (true, true), (true, true), (true, false), (true, false), (false, true), (false, false), (false, false), (true, true), (true, true), (true, false), (true, false), (false, false), (true, true), (true, true), (true, true)] [0, 1, 3, 7, 15, 31, 63, 127, 255, 127, 1023, 2047, 4095, 8191, 16383, 16383, 65535, 131071, 262143, 524287] (fun w' => Below we.heap.size we w') (by kernel_rfl) (by kernel_rfl) ?_ ?_; rotate_left; simp only [pickL, List.map_cons, List.map_nil, List.getD_cons_succ, List.getD_cons_zero])
      rotate_left
      focus exact (Below.refl _ _).drew
      (repeat (first | (refine mix_pure (fun hne K hK => ?_); go_simp; refine hK _ ?_; clear hK K hne) | (refine mix_load ?_ (fun K hK => ?_); (focus (first | rfl | (go_simp; done))); apply Exists.intro; apply And.intro; (focus (intro w' hC; go_simp; exact rfl)); go_simp; refine hK _ ?_; clear hK K) | (refine mix_skip ?_ (fun K hK => ?_); (focus (first | rfl | (go_simp; done))); go_simp; refine hK _ ?_; clear hK K)))
      (refine mix_one (by first | rfl | (go_simp; done)) (fun R hR hX => ?_))
      have hof := msof_calls _ _ we.drew (HE0.out.2.2.1.below (Below.refl _ _).drew)
      unfold Ms.val Ms.cells at hof
      simp only at hof
      have HOF := Lib.hid hof
      clear hof
      go_wp2_with fail
      refine HOF.out.mono ?_
      rintro e wa ⟨z1, rfl, hra, hba⟩
      have hba' : Below we.heap.size we wa := (Below.refl _ _).drew.trans (hba.mono (Nat.le_refl _))
      have HWA := Lib.hid (⟨hra, hba'⟩ : _ ∧ _)
      obtain ⟨z1c, hz1, -⟩ := hra.ex
      subst hz1
      go_wp2_with fail
      refine hR _ _ rfl ⟨_, hba', fun _ => rfl, ?_⟩
      clear hR hX R HOF hba hba' hra
      (repeat (first | (refine mix_pure (fun hne K hK => ?_); go_simp; refine hK _ ?_; clear hK K hne) | (refine mix_load ?_ (fun K hK => ?_); (focus (first | rfl | (go_simp; done))); apply Exists.intro; apply And.intro; (focus (intro w' hC; go_simp; exact rfl)); go_simp; refine hK _ ?_; clear hK K) | (refine mix_skip ?_ (fun K hK => ?_); (focus (first | rfl | (go_simp; done))); go_simp; refine hK _ ?_; clear hK K)))
      (refine mix_one (by first | rfl | (go_simp; done)) (fun R hR hX => ?_))
      have hof := msof_calls _ _ wa (HE0.out.2.2.2.below HWA.out.2)
      unfold Ms.val Ms.cells at hof
      simp only at hof
      have HOF := Lib.hid hof
      clear hof
      go_wp2_with fail
      refine HOF.out.mono ?_
      rintro e wb ⟨z2, rfl, hrb, hbb⟩
      have hbb' := HWA.out.2.trans (hbb.mono HWA.out.2.size)
      have hsa := msame_calls _ _ _ wb (HWA.out.1.below hbb) hrb (by show xs.length ≤ 100000; have h : xs.length = n := HQ.out.2.2.2.1; omega)
      have HSA := Lib.hid (⟨hsa, hbb'⟩ : _ ∧ _)
      obtain ⟨z2c, hz2, -⟩ := hrb.ex
      subst hz2
      go_wp2_with fail
      refine hR _ _ rfl ⟨_, hbb', fun _ => rfl, ?_⟩
      clear hR hX R HOF hbb hbb' hrb hsa HWA
      (repeat (first | (refine mix_pure (fun hne K hK => ?_); go_simp; refine hK _ ?_; clear hK K hne) | (refine mix_load ?_ (fun K hK => ?_); (focus (first | rfl | (go_simp; done))); apply Exists.intro; apply And.intro; (focus (intro w' hC; go_simp; exact rfl)); go_simp; refine hK _ ?_; clear hK K) | (refine mix_skip ?_ (fun K hK => ?_); (focus (first | rfl | (go_simp; done))); go_simp; refine hK _ ?_; clear hK K)))
      (refine mix_one (by first | rfl | (go_simp; done)) (fun R hR hX => ?_))
      go_wp2_with fail
      refine HSA.out.1.mono ?_
      rintro e wc2 ⟨rfl, hbc⟩
      have hbc' := HSA.out.2.trans (hbc.mono HSA.out.2.size)
      have hck := mscheck_calls n 20 6 256 _ _ wc2 (HE0.out.2.2.2.below hbc') HQ.out.2.2.1 (by show xs.length ≤ 1000; have h : xs.length = n := HQ.out.2.2.2.1; omega)
      unfold MCheckEnds Ms.val Ms.cells at hck
      rw [show Ms.err n 20 ⟨sq, xs, sp', dd', dn'⟩ = 0 from if_pos HQ.out.2.1] at hck
      simp only at hck
      rw [show geoV ((n : Nat) : Int) ((20 : Nat) : Int) ((6 : Nat) : Int) ((256 : Nat) : Int) = .agg #[.int .i64 n, .int .i64 20, .int .i64 6, .int .i64 256] from rfl] at hck
      have HCK := Lib.hid (⟨hck, hbc'⟩ : _ ∧ _)
      go_wp2_with fail
      refine hR _ _ rfl ⟨_, hbc', fun _ => rfl, ?_⟩
      clear hR hX R hbc hbc' hck HSA
      (repeat (first | (refine mix_pure (fun hne K hK => ?_); go_simp; refine hK _ ?_; clear hK K hne) | (refine mix_load ?_ (fun K hK => ?_); (focus (first | rfl | (go_simp; done))); apply Exists.intro; apply And.intro; (focus (intro w' hC; go_simp; exact rfl)); go_simp; refine hK _ ?_; clear hK K) | (refine mix_skip ?_ (fun K hK => ?_); (focus (first | rfl | (go_simp; done))); go_simp; refine hK _ ?_; clear hK K)))
      (refine mix_one (by first | rfl | (go_simp; done)) (fun R hR hX => ?_))
      go_wp2_with fail
      refine HCK.out.1.mono ?_
      rintro e wd ⟨rfl, hbd⟩
      have HFIN := Lib.hid (HF.out _ (HE0.out.1.bel.trans ((HCK.out.2.trans (hbd.mono HCK.out.2.size)).mono HE0.out.1.bel.size)))
      clear hbd HCK
      go_wp2_with fail
      ((try simp only [wpList]); refine hR _ _ rfl ⟨fun w' => w' = _, rfl, (fun h => by cases h), ?_⟩; clear hR hX R)
      (repeat (first | (refine mix_pure (fun hne K hK => ?_); go_simp; refine hK _ ?_; clear hK K hne) | (refine mix_load ?_ (fun K hK => ?_); (focus (first | rfl | (go_simp; done))); go_simp; refine hK _ ?_; clear hK K) | (refine mix_skip ?_ (fun K hK => ?_); (focus (first | rfl | (go_simp; done))); go_simp; refine hK _ ?_; clear hK K)))
      refine mix_done ?_
      go_wp2_with fail
      exact HFIN.out

set_option maxRecDepth 100000 in
theorem walk {H : Type} (enc : TypeId × Value → H) (W : World) (base : Nat) (v0 : Value) (d0 : DataW H) (p0 : List MemPlace)
    (hv0 : Value.okWide Try.prog W .any base 50 v0) (h0 : DataW.Trod enc Try.prog W 0 (fun _ => true) true 50 v0 d0 p0)
    (_hsz : (DataW.weightsEach Try.prog [50] [d0]).all (· ≤ reachBytes) = true) :
    Calls Try.prog 4 #[v0] W fun e W' => e = .returned (.bool true) ∧ Below W.heap.size W W' := by
  obtain ⟨chips, swp, dead, done, seq, rfl, h1, h2⟩ := open_mplains h0 hv0
  exact law chips swp dead done seq W h1 h2
end Go.Proofs.Ytogejjbclimjjaa.lawMemberPlains
