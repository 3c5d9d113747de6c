/- The document's tables: are they the same? -/
--only r2
import Derived.Test.YtogejjbclimjjaaTabOf
namespace Go.Proofs.Ytogejjbclimjjaa
set_option linter.unusedVariables false
set_option linter.unusedSimpArgs false
open Go.RowKit

set_option maxRecDepth 100000 in
set_option maxHeartbeats 1000000 in
theorem tsame_calls (A B : RTb) (va vb : Value) (w : World) (ha : RTabAt w A va) (hb : RTabAt w B vb) (hla : A.place.length ≤ 100000) (hlb : B.place.length ≤ 100000) :
    Calls Try.prog 33 #[va, vb] w fun e w' => e = .returned (.bool (sameR A B)) ∧ Below w.heap.size w w' := by
  obtain ⟨v1, v2, v3, rfl, hp1, hs1, ht1⟩ := ha.ex
  obtain ⟨u1, u2, u3, rfl, hp2, hs2, ht2⟩ := hb.ex
  obtain ⟨a1, c1, rfl, l1, m1⟩ := hp1.form
  obtain ⟨a2, c2, rfl, l2, m2⟩ := hs1.form
  obtain ⟨a3, c3, rfl, l3, m3⟩ := ht1.form
  obtain ⟨b1, d1, rfl, k1, n1⟩ := hp2.form
  obtain ⟨b2, d2, rfl, k2, n2⟩ := hs2.form
  obtain ⟨b3, d3, rfl, k3, n3⟩ := ht2.form
  unfold maxLen at m1 m2 m3 n1 n2 n3
  have hfin : ∀ (r : Bool) w', r = sameR A B → Below w.heap.size w w' → (fun e w' => e = Ending.returned (.bool (sameR A B)) ∧ Below w.heap.size w w') (.returned (.bool r)) w' := fun r w' hr hb => ⟨by rw [hr], hb⟩
  generalize (fun (e : Ending) w' => e = Ending.returned (.bool (sameR A B)) ∧ Below w.heap.size w w') = Post at hfin ⊢
  have HF := Lib.hid hfin
  obtain ⟨q, hq⟩ : ∃ q, q = w.heap.size := ⟨_, rfl⟩
  have hal := ((Below.refl w.heap.size w).alloc (Nat.le_refl _) (.cells (A.cells (.slice a1 A.place.length c1) (.slice a2 A.spare.length c2) (.slice a3 A.tabs.length c3)) 60)).alloc (by simp) (.cells (B.cells (.slice b1 B.place.length d1) (.slice b2 B.spare.length d2) (.slice b3 B.tabs.length d3)) 60)
  have hQ : ((w.alloc (.cells (A.cells (.slice a1 A.place.length c1) (.slice a2 A.spare.length c2) (.slice a3 A.tabs.length c3)) 60)).alloc (.cells (B.cells (.slice b1 B.place.length d1) (.slice b2 B.spare.length d2) (.slice b3 B.tabs.length d3)) 60)).heap[q]? = some (.cells (A.cells (.slice a1 A.place.length c1) (.slice a2 A.spare.length c2) (.slice a3 A.tabs.length c3)) 60 (0, 0)) := heap_old _ (heap_is hq)
  have hR : ((w.alloc (.cells (A.cells (.slice a1 A.place.length c1) (.slice a2 A.spare.length c2) (.slice a3 A.tabs.length c3)) 60)).alloc (.cells (B.cells (.slice b1 B.place.length d1) (.slice b2 B.spare.length d2) (.slice b3 B.tabs.length d3)) 60)).heap[q + 1]? = some (.cells (B.cells (.slice b1 B.place.length d1) (.slice b2 B.spare.length d2) (.slice b3 B.tabs.length d3)) 60 (0, 0)) := heap_is (by simp [hq])
  unfold RTb.cells at hal hQ hR
  generalize hw1 : (w.alloc (.cells #[.int .i64 A.seq, .slice a1 A.place.length c1, .slice a2 A.spare.length c2, .slice a3 A.tabs.length c3] 60)).alloc (.cells #[.int .i64 B.seq, .slice b1 B.place.length d1, .slice b2 B.spare.length d2, .slice b3 B.tabs.length d3] 60) = w1 at hal hQ hR
  have HW := Lib.hid hw1
  clear hw1
  have i1 := ints_calls _ _ _ _ w1 (hp1.below hal) (hp2.below hal)
  have I1 := Lib.hid i1
  have I2 := Lib.hid (fun w' (hb : Below w1.heap.size w1 w') => ints_calls _ _ _ _ w' ((hs1.below hal).below hb) ((hs2.below hal).below hb))
  have I3 := Lib.hid (fun w' (hb : Below w1.heap.size w1 w') => ints_calls _ _ _ _ w' ((ht1.below hal).below hb) ((ht2.below hal).below hb))
  have HX := Lib.hid (⟨hal, hQ, hR⟩ : _ ∧ _ ∧ _)
  clear ha hb hp1 hp2 hs1 hs2 ht1 ht2 hal hfin i1
  unfold RTb.cells
  go_enter Try.func33, Try.ntmps33
  go_upto_region 1 with (fail)
  rw [HW.out, ← hq]
  have p0 := cells_at hQ 0 _ rfl
  have p1 := cells_at hQ 1 _ rfl
  have r0 := cells_at hR 0 _ rfl
  have r1 := cells_at hR 1 _ rfl
  simp only [List.getElem_toArray, List.getElem_cons_succ, List.getElem_cons_zero] at p0 p1 r0 r1
  have hlq := heap_lt hQ
  have hlr := heap_lt hR
  clear hq HW hQ hR
  by_cases e1 : A.seq = B.seq
  rotate_left
  · have e2 : (A.seq == B.seq) = false := by simp [e1]
    have HE := Lib.hid (HF.out false w1 (by unfold sameR; rw [decide_eq_false e1]; rfl) HX.out.1)
    clear e1
    go_wp2_with fail
    exact HE.out
  · have e2 : (A.seq == B.seq) = true := by simp [e1]
    have HS := Lib.hid e1
    clear e1
    go_wp2_with fail
    refine I1.out.mono ?_
    rintro e w2 ⟨rfl, hb2⟩
    have hB2 := HX.out.1.trans (hb2.mono HX.out.1.size)
    have hq2 := heap_keep hb2 HX.out.2.1
    have hr2 := heap_keep hb2 HX.out.2.2
    clear p0 p1 r0 r1 hlq hlr e2
    by_cases e1 : A.place = B.place
    rotate_left
    · rw [decide_eq_false e1]
      have HE := Lib.hid (HF.out false w2 (by unfold sameR; rw [decide_eq_false e1]; simp) hB2)
      clear e1 hq2 hr2 hb2 hB2
      go_wp2_with fail
      exact HE.out
    · rw [decide_eq_true e1]
      have HP := Lib.hid e1
      have p2 := cells_at hq2 2 _ rfl
      have r2 := cells_at hr2 2 _ rfl
      simp only [List.getElem_toArray, List.getElem_cons_succ, List.getElem_cons_zero] at p2 r2
      have hlq := heap_lt hq2
      have hlr := heap_lt hr2
      have HX2 := Lib.hid (⟨hb2, hB2⟩ : _ ∧ _)
      clear e1 hq2 hr2 hb2 hB2
      go_wp2_with fail
      refine (I2.out w2 HX2.out.1).mono ?_
      rintro e w3 ⟨rfl, hb3⟩
      have hb13 := HX2.out.1.trans (hb3.mono HX2.out.1.size)
      have hB3 := HX2.out.2.trans (hb3.mono HX2.out.2.size)
      have hq3 := heap_keep hb13 HX.out.2.1
      have hr3 := heap_keep hb13 HX.out.2.2
      clear p2 r2 hlq hlr hb3 HX2
      by_cases e1 : A.spare = B.spare
      rotate_left
      · rw [decide_eq_false e1]
        have HE := Lib.hid (HF.out false w3 (by unfold sameR; rw [decide_eq_false e1]; simp) hB3)
        clear e1 hq3 hr3 hb13 hB3
        go_wp2_with fail
        exact HE.out
      · rw [decide_eq_true e1]
        have HP2 := Lib.hid e1
        have p3 := cells_at hq3 3 _ rfl
        have r3 := cells_at hr3 3 _ rfl
        simp only [List.getElem_toArray, List.getElem_cons_succ, List.getElem_cons_zero] at p3 r3
        have hlq := heap_lt hq3
        have hlr := heap_lt hr3
        have HX3 := Lib.hid (⟨hb13, hB3⟩ : _ ∧ _)
        clear e1 hq3 hr3 hb13 hB3
        go_wp2_with fail
        refine (I3.out w3 HX3.out.1).mono ?_
        rintro e w4 ⟨rfl, hb4⟩
        have hb14 := HX3.out.1.trans (hb4.mono HX3.out.1.size)
        have hB4 := HX3.out.2.trans (hb4.mono HX3.out.2.size)
        have hq4 := heap_keep hb14 HX.out.2.1
        have hr4 := heap_keep hb14 HX.out.2.2
        clear p3 r3 hlq hlr hb4 HX3
        by_cases e1 : A.tabs = B.tabs
        · rw [decide_eq_true e1]
          have HE := Lib.hid (HF.out true w4 (by unfold sameR; rw [decide_eq_true HS.out, decide_eq_true HP.out, decide_eq_true HP2.out, decide_eq_true e1]; rfl) hB4)
          clear e1 hq4 hr4 hb14 hB4
          go_wp2_with fail
          exact HE.out
        · rw [decide_eq_false e1]
          have p1 := cells_at hq4 1 _ rfl
          have r1 := cells_at hr4 1 _ rfl
          simp only [List.getElem_toArray, List.getElem_cons_succ, List.getElem_cons_zero] at p1 r1
          have hlq := heap_lt hq4
          have hlr := heap_lt hr4
          have HE := Lib.hid (fun r (hr : r = decide (A.place.length + B.place.length = 0)) => HF.out r w4 (by unfold sameR; rw [decide_eq_true HS.out, decide_eq_true HP.out, decide_eq_true HP2.out, decide_eq_false e1, hr]; rfl) hB4)
          have ew : IntKind.i64.wrap ((A.place.length : Int) + (B.place.length : Int)) = (A.place.length : Int) + (B.place.length : Int) := IntWalk.i64_in _ ⟨by omega, by omega⟩
          clear e1 hq4 hr4 hb14 hB4
          go_wp2_with fail
          refine HE.out _ ?_
          show ((A.place.length : Int) + (B.place.length : Int) == 0) = _
          rw [Bool.eq_iff_iff]
          simp only [beq_iff_eq, decide_eq_true_eq]
          omega
end Go.Proofs.Ytogejjbclimjjaa
