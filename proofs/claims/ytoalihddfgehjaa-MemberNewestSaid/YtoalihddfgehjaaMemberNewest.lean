/- MemberNewest: the walk. -/
--only r1
import Derived.Test.YtoalihddfgehjaaNewest
import Derived.Test.YtoalihddfgehjaaMember
import Derived.Test.YtoalihddfgehjaaOpenI
namespace Go.Proofs.Ytoalihddfgehjaa.lawMemberNewest
open Go.RowKit Go.ChangeShapes Go.WideShapes Go.Deep
set_option linter.unusedVariables false
set_option linter.unusedSimpArgs false

theorem RSet.row {w : World} {v : Value} {xs : List SetC} (h : RSet w v xs) {k : Nat} (hk : k < xs.length) : ∃ b o cap, v = .slice (some ⟨b, o, none⟩) xs.length cap ∧
    ∀ (i : Nat) (h : i < xs.length),
    w.cell? ⟨b, o + i * 5, none⟩ = some (.int .u32 xs[i].q) ∧ w.cell? ⟨b, o + i * 5 + 1, none⟩ = some xs[i].v ∧ w.cell? ⟨b, o + i * 5 + 2, none⟩ = some (.int .i64 xs[i].s) ∧ w.cell? ⟨b, o + i * 5 + 3, none⟩ = some (.int .i64 xs[i].d) ∧ w.cell? ⟨b, o + i * 5 + 4, none⟩ = some (.int .i64 xs[i].n) := by
  obtain ⟨a, cap, h1, h2, h3, h4⟩ := h
  obtain ⟨b, o, rfl, hy⟩ := h4.resolve_left (fun e => by subst e; simp at hk)
  exact ⟨b, o, cap, h1, hy⟩

set_option maxHeartbeats 1000000 in
theorem law (xs : List SetC) (v : Value) (w : World) (hv : RSet w v xs) (hok : ∀ x ∈ xs, x.Ok ∧ ∃ l, RI w x.v l) :
    Calls Try.prog 9 #[v] w fun e w' => e = .returned (.bool true) ∧ Below w.heap.size w w' := by
  obtain ⟨a, cap, rfl, hl, hm, -⟩ := id hv
  unfold maxLen at hm
  have HOK := Lib.hid hok
  clear hok
  by_cases h20 : 20 < xs.length
  · go_enter Try.func9, Try.ntmps9
    go_wp2_with fail
    refine (first_calls _).mono ?_
    rintro e1 w1 ⟨rfl, hb1⟩
    go_wp2_with fail
    refine (first_calls _).mono ?_
    rintro e2 w2 ⟨rfl, hb2⟩
    go_wp2_with fail
    go_ret
    exact ⟨rfl, hb1.trans (hb2.mono hb1.size)⟩
  · have hl20 : xs.length ≤ 20 := by omega
    have h20' : decide (20 < (xs.length : Int)) = false := decide_eq_false (by omega)
    go_enter Try.func9, Try.ntmps9
    go_wp2_with fail
    refine (first_calls _).mono ?_
    rintro e1 w1 ⟨rfl, hb1⟩
    have hbel := hb1
    have hv1 := hv.below hb1
    clear hb1
    go_wp2_with fail
    refine (newest_calls xs _ _ hv1 (fun x hx => (HOK.out x hx).1) (by omega)).mono ?_
    rintro e2 w2 ⟨rfl, hb2⟩
    have hv2 := hv1.below hb2
    replace hbel := hbel.trans (hb2.mono hbel.size)
    clear hb2 hv1
    by_cases h0 : xs.length = 0
    · have hx0 : xs = [] := List.length_eq_zero_iff.mp h0
      subst hx0
      have hd : decide (0 < ([] : List SetC).length) = false := rfl
      have ho : outAt [] 0 = SetC.zero := rfl
      rw [hd, show ([] : List SetC).length = 0 from rfl, ho]
      simp only [SetC.zero, SetC.cells]
      clear hd ho h0 hl20 hl
      have hz : ((([] : List SetC).length : Int) == 0) = true := rfl
      go_wp2_with fail
      go_ret
      exact ⟨rfl, hbel.alloc hbel.size _⟩
    · have hd : decide (0 < xs.length) = true := decide_eq_true (by omega)
      rw [hd]
      clear hd
      have hlt0 := bestIx_lt xs xs.length (by omega)
      have hout : outAt xs xs.length = xs[bestIx xs xs.length] := by
        unfold outAt
        rw [if_neg h0]
        simp [List.getD, hlt0]
      rw [hout]
      clear hout
      obtain ⟨⟨hq, a1, n1, c1, ev⟩, li, hri⟩ := HOK.out xs[bestIx xs xs.length] (List.getElem_mem _)
      have hri2 := hri.below hbel
      simp only [SetC.cells]
      rw [ev] at hri2 ⊢
      have EV := Lib.hid ev
      have hzz : ((xs.length : Int) == 0) = false := by rw [beq_eq_false_iff_ne]; omega
      have hpos : 0 < xs.length := by omega
      clear hri ev h0 hv
      go_wp2_with fail
      obtain ⟨X, hX⟩ : ∃ X, X = xs[bestIx xs xs.length] := ⟨_, rfl⟩
      have HX := Lib.hid hX
      rw [← hX] at hq EV ⊢
      clear hX
      have hS := heap_new w2 (.cells #[.int .u32 X.q, .slice a1 n1 c1, .int .i64 X.s, .int .i64 X.d, .int .i64 X.n] 40)
      have hbA := (Below.refl w2.heap.size w2).alloc (Nat.le_refl _) (.cells #[.int .u32 X.q, .slice a1 n1 c1, .int .i64 X.s, .int .i64 X.d, .int .i64 X.n] 40)
      replace hv2 := hv2.below hbA
      replace hri2 := hri2.below hbA
      replace hbel := hbel.trans (hbA.mono hbel.size)
      generalize w2.alloc (.cells #[.int .u32 X.q, .slice a1 n1 c1, .int .i64 X.s, .int .i64 X.d, .int .i64 X.n] 40) = w3 at hS hbA hv2 hri2 hbel ⊢
      obtain ⟨p3, hp3⟩ : ∃ p3, p3 = w2.heap.size := ⟨_, rfl⟩
      rw [← hp3] at hS ⊢
      clear hp3 hbA
      obtain ⟨b, o, cap', ee, hy⟩ := RSet.row hv2 hpos
      simp only [Value.slice.injEq] at ee
      obtain ⟨rfl, -, rfl⟩ := ee
      clear hv2
      have HY : ∀ w', Below w3.heap.size w3 w' → Hid (∀ (i : Nat) (h : i < xs.length), w'.cell? ⟨b, o + i * 5, none⟩ = some (.int .u32 xs[i].q) ∧ w'.cell? ⟨b, o + i * 5 + 1, none⟩ = some xs[i].v ∧ w'.cell? ⟨b, o + i * 5 + 2, none⟩ = some (.int .i64 xs[i].s) ∧ w'.cell? ⟨b, o + i * 5 + 3, none⟩ = some (.int .i64 xs[i].d) ∧ w'.cell? ⟨b, o + i * 5 + 4, none⟩ = some (.int .i64 xs[i].n)) := fun w' h i hi => by
        obtain ⟨c0, c1, c2, c3, c4⟩ := hy i hi
        exact ⟨below_cell h (cell_lt c0) c0, below_cell h (cell_lt c1) c1, below_cell h (cell_lt c2) c2, below_cell h (cell_lt c3) c3, below_cell h (cell_lt c4) c4⟩
      have HYY := Lib.hid HY
      clear hy HY
      go_loopw [5, 6] (fun k i wr => ∃ j : Nat, 1 ≤ j ∧ j ≤ xs.length ∧ i = .int .i64 j ∧ k = .int .i64 ((bestIx xs j : Nat) : Int) ∧ Below w3.heap.size w3 wr) (fun _ i _ => xs.length - (intOf i).toNat)
      case atStart => exact ⟨1, Nat.le_refl _, hpos, rfl, rfl, Below.refl _ _⟩
      case round =>
        obtain ⟨j, hj1, hj, rfl, rfl, hb⟩ := hrel
        have hbj := bestIx_lt xs j (by omega)
        by_cases hlt : j < xs.length
        · obtain ⟨x0, -⟩ := (HYY.out wr hb).out j hlt
          have hbj2 : bestIx xs j < xs.length := by omega
          obtain ⟨y0, -⟩ := (HYY.out wr hb).out (bestIx xs j) (by omega)
          have hgj : xs.getD j .zero = xs[j] := by simp [List.getD, hlt]
          have hgb : xs.getD (bestIx xs j) .zero = xs[bestIx xs j] := by simp [List.getD, show bestIx xs j < xs.length by omega]
          have hsucc : bestIx xs (j + 1) = if xs[j].q > xs[bestIx xs j].q then j else bestIx xs j := by
            rw [bestIx, hgj, hgb]
            by_cases e : xs[j].q > xs[bestIx xs j].q
            · rw [if_pos (.inr e), if_pos e]
            · rw [if_neg (fun h => h.elim (fun h => by omega) e), if_neg e]
          have HSUCC := Lib.hid hsucc
          clear hsucc hgj hgb
          generalize xs[j].q = qj at x0 HSUCC
          generalize xs[bestIx xs j].q = qb at y0 HSUCC
          go_wp2_with fail
          (refine wp_region_mix [0, 1, 2, 3, 4, 5, 6, 7, 8, 9, 10] [(true, true), (true, true), (true, true), (true, true), (true, false), (true, true), (true, true), (true, true), (true, true), (true, false), (true, true)] [0, 0, 3, 7, 15, 0, 0, 96, 224, 480, 1023] _ (by kernel_rfl) (by kernel_rfl) (rfl : _ = _) ?_; simp only [pickL, List.map_cons, List.map_nil, List.getD_cons_succ, List.getD_cons_zero])
          (repeat (first | (refine mix_pure (fun hne K hK => ?_); go_simp; refine hK _ ?_; clear hK K hne) | (refine mix_load ?_ (fun K hK => ?_); (focus (first | rfl | (go_simp; done))); go_simp; refine hK _ ?_; clear hK K) | (refine mix_skip ?_ (fun K hK => ?_); (focus (first | rfl | (go_simp; done))); go_simp; refine hK _ ?_; clear hK K)))
          refine mix_done ?_
          by_cases hcmp : qb < qj
          · go_wp2_with fail
            go_roundw
            case rel => exact ⟨j + 1, by omega, by omega, by go_num, by rw [HSUCC.out, if_pos hcmp], hb.drew⟩
            case measure => simp [intOf]; omega
          · go_wp2_with fail
            go_roundw
            case rel => exact ⟨j + 1, by omega, by omega, by go_num, by rw [HSUCC.out, if_neg hcmp], hb.drew⟩
            case measure => simp [intOf]; omega
        · obtain rfl : j = xs.length := by omega
          obtain ⟨x0, x1, x2, x3, x4⟩ := (HYY.out wr hb).out (bestIx xs xs.length) hbj
          rw [← HX.out] at x0 x1 x2 x3 x4
          rw [EV.out] at x1
          (replace hbel := hbel.trans (hb.mono hbel.size); replace hS := heap_keep hb hS; replace hri2 := hri2.below hb; clear hb)
          have hlb := cell_lt x0
          go_wp2_with fail
          have s0 : ∀ w', Below wr.heap.size wr w' → w'.cell? ⟨p3, 0, none⟩ = some (.int .u32 X.q) := fun w' h => cells_at (heap_keep h hS) 0 _ rfl
          have s1 : ∀ w', Below wr.heap.size wr w' → w'.cell? ⟨p3, 1, none⟩ = some (.slice a1 n1 c1) := fun w' h => cells_at (heap_keep h hS) 1 _ rfl
          have s2 : ∀ w', Below wr.heap.size wr w' → w'.cell? ⟨p3, 2, none⟩ = some (.int .i64 X.s) := fun w' h => cells_at (heap_keep h hS) 2 _ rfl
          have s3 : ∀ w', Below wr.heap.size wr w' → w'.cell? ⟨p3, 3, none⟩ = some (.int .i64 X.d) := fun w' h => cells_at (heap_keep h hS) 3 _ rfl
          have s4 : ∀ w', Below wr.heap.size wr w' → w'.cell? ⟨p3, 4, none⟩ = some (.int .i64 X.n) := fun w' h => cells_at (heap_keep h hS) 4 _ rfl
          have y0 : ∀ w', Below wr.heap.size wr w' → w'.cell? ⟨b, o + bestIx xs xs.length * 5, none⟩ = some (.int .u32 X.q) := fun w' h => below_cell h hlb x0
          have y1 : ∀ w', Below wr.heap.size wr w' → w'.cell? ⟨b, o + bestIx xs xs.length * 5 + 1, none⟩ = some (.slice a1 n1 c1) := fun w' h => below_cell h hlb x1
          have y2 : ∀ w', Below wr.heap.size wr w' → w'.cell? ⟨b, o + bestIx xs xs.length * 5 + 2, none⟩ = some (.int .i64 X.s) := fun w' h => below_cell h hlb x2
          have y3 : ∀ w', Below wr.heap.size wr w' → w'.cell? ⟨b, o + bestIx xs xs.length * 5 + 3, none⟩ = some (.int .i64 X.d) := fun w' h => below_cell h hlb x3
          have y4 : ∀ w', Below wr.heap.size wr w' → w'.cell? ⟨b, o + bestIx xs xs.length * 5 + 4, none⟩ = some (.int .i64 X.n) := fun w' h => below_cell h hlb x4
          clear x0 x1 x2 x3 x4
          ((refine wp_region_mix [0, 1, 2, 4, 5, 6, 7, 3, 8, 9, 10, 11] [(true, true), (true, true), (true, false), (true, true), (true, true), (true, true), (true, false), (false, true), (false, false), (false, false), (true, true), (true, true)] [0, 1, 3, 7, 3, 3, 51, 115, 255, 511, 1023, 2047] (fun w' => Below wr.heap.size wr w') (by kernel_rfl) (by kernel_rfl) ?_ ?_; rotate_left; simp only [pickL, List.map_cons, List.map_nil, List.getD_cons_succ, List.getD_cons_zero]); rotate_left; (focus exact ⟨rfl, rfl, rfl, Nat.le_refl _, fun _ _ => rfl⟩); have hC : Below wr.heap.size wr wr.drew := ⟨rfl, rfl, rfl, Nat.le_refl _, fun _ _ => rfl⟩)
          (repeat (first | (refine mix_pure (fun hne K hK => ?_); go_simp; refine hK _ ?_; clear hK K hne) | (refine mix_load ?_ (fun K hK => ?_); (focus (first | rfl | (go_simp; done))); apply Exists.intro; apply And.intro; (focus (intro w' hC; go_simp; exact rfl)); go_simp; refine hK _ ?_; clear hK K) | (refine mix_skip ?_ (fun K hK => ?_); (focus (first | rfl | (go_simp; done))); go_simp; refine hK _ ?_; clear hK K)))
          ((refine mix_one (by first | rfl | (go_simp; done)) (fun R hR hX => ?_)); go_wp2_with fail; refine (of_calls X.q X.s X.d X.n a1 n1 c1 _ hq).mono ?_; rintro e wn ⟨rfl, hbn⟩; replace hC := below_step hC hbn rfl rfl rfl rfl hC.size; clear hbn; go_wp2_with fail; refine hR _ _ rfl ⟨_, hC, fun _ => rfl, ?_⟩; clear hR hX R)
          (repeat (first | (refine mix_pure (fun hne K hK => ?_); go_simp; refine hK _ ?_; clear hK K hne) | (refine mix_load ?_ (fun K hK => ?_); (focus (first | rfl | (go_simp; done))); apply Exists.intro; apply And.intro; (focus (intro w' hC; go_simp; exact rfl)); go_simp; refine hK _ ?_; clear hK K) | (refine mix_skip ?_ (fun K hK => ?_); (focus (first | rfl | (go_simp; done))); go_simp; refine hK _ ?_; clear hK K)))
          ((refine mix_one (by first | rfl | (go_simp; done)) (fun R hR hX => ?_)); go_wp2_with fail; refine (of_calls X.q X.s X.d X.n a1 n1 c1 _ hq).mono ?_; rintro e wn ⟨rfl, hbn⟩; replace hC := below_step hC hbn rfl rfl rfl rfl hC.size; clear hbn; go_wp2_with fail; refine hR _ _ rfl ⟨_, hC, fun _ => rfl, ?_⟩; clear hR hX R)
          (repeat (first | (refine mix_pure (fun hne K hK => ?_); go_simp; refine hK _ ?_; clear hK K hne) | (refine mix_load ?_ (fun K hK => ?_); (focus (first | rfl | (go_simp; done))); apply Exists.intro; apply And.intro; (focus (intro w' hC; go_simp; exact rfl)); go_simp; refine hK _ ?_; clear hK K) | (refine mix_skip ?_ (fun K hK => ?_); (focus (first | rfl | (go_simp; done))); go_simp; refine hK _ ?_; clear hK K)))
          replace hri2 := hri2.below hC
          ((refine mix_one (by first | rfl | (go_simp; done)) (fun R hR hX => ?_)); go_wp2_with fail; refine (same_true X.q X.s X.d X.n li _ _ _ hri2 hri2).mono ?_; rintro e wn ⟨rfl, hbn⟩; replace hC := below_step hC hbn rfl rfl rfl rfl hC.size; clear hbn; go_wp2_with fail; refine hR _ _ rfl ⟨_, hC, fun _ => rfl, ?_⟩; clear hR hX R)
          (repeat (first | (refine mix_pure (fun hne K hK => ?_); go_simp; refine hK _ ?_; clear hK K hne) | (refine mix_load ?_ (fun K hK => ?_); (focus (first | rfl | (go_simp; done))); apply Exists.intro; apply And.intro; (focus (intro w' hC; go_simp; exact rfl)); go_simp; refine hK _ ?_; clear hK K) | (refine mix_skip ?_ (fun K hK => ?_); (focus (first | rfl | (go_simp; done))); go_simp; refine hK _ ?_; clear hK K)))
          refine mix_done ?_
          go_wp2_with fail
          go_ret
          exact ⟨rfl, hbel.trans (hC.mono hbel.size)⟩

theorem opens_sets {H : Type} {enc : TypeId × Value → H} {W : World} {v : Value} {d : DataW H} {p : List MemPlace}
    (h : DataW.Trod enc Try.prog W 0 (fun _ => true) true 37 v d p) (hv : ∃ a n c, v = .slice a n c) : ∃ xs : List SetC, RSet W v xs ∧ ∀ x ∈ xs, x.Ok ∧ ∃ l, RI W x.v l := by
  obtain ⟨fuel, hf⟩ := h
  obtain ⟨a0, n0, c0, rfl⟩ := hv
  rcases open_slice_fields Try.underlying37 Try.underlying40 (by kernel_rfl) (by kernel_rfl) hf with ⟨hcs, _⟩ | ⟨x, len, cap, m, hcs, _, hl, hm, hmm, hfl⟩
  · simp [Value.cells] at hcs
    obtain ⟨rfl, rfl, rfl⟩ := hcs
    exact ⟨[], ⟨none, 0, rfl, Nat.le_refl _, by simp [maxLen], .inl rfl⟩, fun x hx => by cases hx⟩
  · simp [Value.cells] at hcs
    obtain ⟨rfl, rfl, rfl⟩ := hcs
    have hmc : m = c0 := by simpa using hmm
    subst hmc
    obtain ⟨b, off, spot⟩ := x
    have hspot : 0 < n0 → spot = none := fun hp => by
      obtain ⟨ys, n, hj⟩ := hfl 0 (by omega)
      obtain ⟨v0, y0, e0, _, t0⟩ := hj 0 _ rfl
      simpa [Addr.add] using World.cell?_spot e0
    have hel : ∀ i, i < n0 → ∃ x : SetC, (x.Ok ∧ ∃ l, RI W x.v l) ∧ spot = none ∧ W.cell? ⟨b, off + i * 5, none⟩ = some (.int .u32 x.q) ∧ W.cell? ⟨b, off + i * 5 + 1, none⟩ = some x.v ∧ W.cell? ⟨b, off + i * 5 + 2, none⟩ = some (.int .i64 x.s) ∧ W.cell? ⟨b, off + i * 5 + 3, none⟩ = some (.int .i64 x.d) ∧ W.cell? ⟨b, off + i * 5 + 4, none⟩ = some (.int .i64 x.n) := by
      intro i hi
      obtain ⟨ys, n, hj⟩ := hfl i (by omega)
      obtain ⟨v0, y0, e0, _, t0⟩ := hj 0 _ rfl
      obtain ⟨v1, y1, e1, _, t1⟩ := hj 1 _ rfl
      obtain ⟨v2, y2, e2, _, t2⟩ := hj 2 _ rfl
      obtain ⟨v3, y3, e3, _, t3⟩ := hj 3 _ rfl
      obtain ⟨v4, y4, e4, _, t4⟩ := hj 4 _ rfl
      obtain rfl := hspot (by omega)
      rw [add_plain] at e0 e1 e2 e3 e4
      obtain ⟨z0, f0, _, w0⟩ := DataW.trod_int Try.underlying24 t0
      obtain ⟨z2, f2, _, w2⟩ := DataW.trod_int Try.underlying3 t2
      obtain ⟨z3, f3, _, w3⟩ := DataW.trod_int Try.underlying3 t3
      obtain ⟨z4, f4, _, w4⟩ := DataW.trod_int Try.underlying3 t4
      simp only [List.cons.injEq, and_true] at f0 f2 f3 f4
      subst f0 f2 f3 f4
      obtain ⟨l, hl⟩ := open_ri t1
      obtain ⟨a, cp, ev, _⟩ := hl.form
      exact ⟨⟨z0, v1, z2, z3, z4⟩, ⟨⟨lit_u32 w0, a, _, cp, ev⟩, l, hl⟩, rfl, e0, by rw [Nat.add_assoc]; exact e1, by rw [Nat.add_assoc]; exact e2, by rw [Nat.add_assoc]; exact e3, by rw [Nat.add_assoc]; exact e4⟩
    obtain ⟨xs, hlen, hxs⟩ := list_of _ n0 hel
    refine ⟨xs, ⟨some ⟨b, off, spot⟩, m, by rw [hlen], by omega, hm, ?_⟩, fun x hx => ?_⟩
    · by_cases h0 : xs = []
      · exact .inl h0
      · have hp : 0 < xs.length := by cases xs; exact absurd rfl h0; simp
        obtain ⟨_, hs, _⟩ := hxs 0 hp
        subst hs
        exact .inr ⟨b, off, rfl, fun i hi => (hxs i hi).2.2⟩
    · obtain ⟨i, hi, rfl⟩ := List.getElem_of_mem hx
      exact (hxs i hi).1

theorem walk {H : Type} (enc : TypeId × Value → H) (W : World) (base : Nat) (v0 : Value) (d0 : DataW H) (p0 : List MemPlace)
    (hv0 : Value.okWide Try.prog W .any base 37 v0) (h0 : DataW.Trod enc Try.prog W 0 (fun _ => true) true 37 v0 d0 p0)
    (_hsz : (DataW.weightsEach Try.prog [37] [d0]).all (· ≤ reachBytes) = true) :
    Calls Try.prog 9 #[v0] W fun e W' => e = .returned (.bool true) ∧ Below W.heap.size W W' := by
  obtain ⟨xs, h1, h2⟩ := opens_sets h0 (okWide_slice Try.underlying37 hv0)
  exact law xs v0 W h1 h2
end Go.Proofs.Ytoalihddfgehjaa.lawMemberNewest
