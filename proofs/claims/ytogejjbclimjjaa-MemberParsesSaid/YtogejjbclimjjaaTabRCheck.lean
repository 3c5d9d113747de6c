/- The document's tables: Check. -/
--only r2
import Derived.Test.YtogejjbclimjjaaTabOf
namespace Go.Proofs.Ytogejjbclimjjaa
set_option linter.unusedVariables false
set_option linter.unusedSimpArgs false
open Go.RowKit

def RTb.all (R : RTb) : List Int := R.place ++ (R.spare ++ R.tabs)
def RTb.Ok (n : Nat) (R : RTb) : Prop := R.place.length + 5 = n ∧ R.tabs.length = 2 ∧ Tried n R.all
open Classical in
noncomputable def RTb.err (n : Nat) (R : RTb) : Nat := if R.Ok n then 0 else 62
theorem Tb.r_ok (n : Nat) (T : Tb) : T.r.Ok n ↔ T.Ok n := by
  rw [Tb.ok_iff]
  exact ⟨fun h => ⟨h.1, h.2.2⟩, fun h => ⟨h.1, rfl, h.2⟩⟩
theorem Tb.r_err (n : Nat) (T : Tb) : T.r.err n = T.err n := by
  unfold RTb.err Tb.err
  by_cases h : T.Ok n
  · rw [if_pos h, if_pos ((Tb.r_ok n T).mpr h)]
  · rw [if_neg h, if_neg (fun h2 => h ((Tb.r_ok n T).mp h2))]

set_option maxRecDepth 100000 in
set_option maxHeartbeats 1000000 in
theorem rtcheck_calls (R : RTb) (v : Value) (n : Nat) (w : World) (hR : RTabAt w R v) (hn : n ≤ 100000) (hpl : R.place.length ≤ 1000) (hsl : R.spare.length ≤ 1000) (htl : R.tabs.length ≤ 1000) :
    Calls Try.prog 23 #[v, .int .i64 n] w fun e w' => e = .returned (.int .i64 (R.err n)) ∧ Below w.heap.size w w' := by
  obtain ⟨i, hi, hz0, hz1, hz2⟩ := info_parts infoI64
  obtain ⟨v1, v2, v3, rfl, hp1, hs1, ht1⟩ := hR.ex
  obtain ⟨a1, c1, rfl, l1, m1⟩ := hp1.form
  obtain ⟨a2, c2, rfl, l2, m2⟩ := hs1.form
  obtain ⟨a3, c3, rfl, l3, m3⟩ := ht1.form
  have hyes : R.Ok n → ∀ w', Below w.heap.size w w' → (fun (e : Ending) w' => e = Ending.returned (.int .i64 (R.err n)) ∧ Below w.heap.size w w') (.returned (.int .i64 0)) w' := fun h w' hb => ⟨by unfold RTb.err; rw [if_pos h]; rfl, hb⟩
  have hno : ¬ R.Ok n → ∀ w', Below w.heap.size w w' → (fun (e : Ending) w' => e = Ending.returned (.int .i64 (R.err n)) ∧ Below w.heap.size w w') (.returned (.int .i64 62)) w' := fun h w' hb => ⟨by unfold RTb.err; rw [if_neg h]; rfl, hb⟩
  generalize (fun (e : Ending) w' => e = Ending.returned (.int .i64 (R.err n)) ∧ Below w.heap.size w w') = Post at hyes hno ⊢
  have HY := Lib.hid hyes
  have HN := Lib.hid hno
  obtain ⟨q, hq⟩ : ∃ q, q = w.heap.size := ⟨_, rfl⟩
  have hal := (Below.refl w.heap.size w).alloc (Nat.le_refl _) (.cells (R.cells (.slice a1 R.place.length c1) (.slice a2 R.spare.length c2) (.slice a3 R.tabs.length c3)) 60)
  have hQ : (w.alloc (.cells (R.cells (.slice a1 R.place.length c1) (.slice a2 R.spare.length c2) (.slice a3 R.tabs.length c3)) 60)).heap[q]? = some (.cells (R.cells (.slice a1 R.place.length c1) (.slice a2 R.spare.length c2) (.slice a3 R.tabs.length c3)) 60 (0, 0)) := heap_is hq
  unfold RTb.cells at hal hQ
  generalize hw1 : w.alloc (.cells #[.int .i64 R.seq, .slice a1 R.place.length c1, .slice a2 R.spare.length c2, .slice a3 R.tabs.length c3] 60) = w1 at hal hQ
  have HW := Lib.hid hw1
  have HX := Lib.hid (⟨hal, hp1.below hal, hs1.below hal, ht1.below hal, hQ⟩ : _ ∧ _ ∧ _ ∧ _ ∧ _)
  clear hw1 hyes hno hR hp1 hs1 ht1
  unfold RTb.cells
  go_enter Try.func23, Try.ntmps23
  go_upto_region 1 with (fail)
  rw [HW.out, ← hq]
  have p1 := cells_at hQ 1 _ rfl
  have p3 := cells_at hQ 3 _ rfl
  have p2 := cells_at hQ 2 _ rfl
  simp only [List.getElem_toArray, List.getElem_cons_succ, List.getElem_cons_zero] at p1 p2 p3
  have hlq := heap_lt hQ
  have HQW := Lib.hid hq
  clear HW hQ hq
  by_cases h1 : R.place.length + 5 = n
  rotate_left
  · have e1 : ((R.place.length : Int) != (n : Int) - 5) = true := by simp; omega
    have HE := Lib.hid (HN.out (fun h => h1 h.1) w1 hal)
    clear h1 hal
    go_wp2_with fail
    exact HE.out
  · have e1 : ((R.place.length : Int) != (n : Int) - 5) = false := by simp; omega
    by_cases h2 : R.tabs.length = 2
    rotate_left
    · have e2 : ((R.tabs.length : Int) != 2) = true := by simp; omega
      have HE := Lib.hid (HN.out (fun h => h2 h.2.1) w1 hal)
      clear h1 h2 hal
      go_wp2_with fail
      exact HE.out
    · have e2 : ((R.tabs.length : Int) != 2) = false := by simp; omega
      have H12 := Lib.hid (⟨h1, h2⟩ : _ ∧ _)
      have hsz := hal.size
      clear h1 h2 hal
      go_upto_region 4 with (fail)
      go_wp2_with (at_builtin; (refine wpList_append_RV rfl _ _ 22 rfl w1.heap.size 3 i (.int .i64 0) 8 Try.underlying22 hi hz0 hz1 hz2 rfl (.slice none 0 0) 0 [] rfl (World.ownsRow_nil _ _ _ _) _ _ rfl HX.out.2.1 (oneCell_i64 _) ?c1 ?c2 ?c3 ?_))
      case c1 => simp only [maxLen, List.length_map]; omega
      case c2 => simp only [List.length_map]; omega
      case c3 => exact Nat.le_refl _
      intro v' w2 hown2 hg2 _
      (try simp only [Nat.zero_add, List.nil_append, List.length_map] at hown2)
      obtain ⟨x1, y1, rfl⟩ := own_slice hown2
      have hb2 := below_grown_none hg2
      have hQ2 := heap_keep hb2 HX.out.2.2.2.2
      have hs2' := HX.out.2.2.1.below hb2
      have q2 := cells_at hQ2 2 _ rfl
      have hlq2 := heap_lt hQ2
      simp only [List.getElem_toArray, List.getElem_cons_succ, List.getElem_cons_zero] at q2
      have hsz2 := hb2.size
      have H2 := Lib.hid hb2
      clear hg2 hb2 hQ2 p1 p2 p3 hlq
      go_upto_region 5 with (fail)
      go_wp2_with (at_builtin; (refine wpList_append_RV rfl _ _ 22 rfl w1.heap.size 3 i (.int .i64 0) 8 Try.underlying22 hi hz0 hz1 hz2 rfl (.slice x1 R.place.length y1) R.place.length _ rfl hown2 _ _ rfl hs2' (oneCell_i64 _) ?c1 ?c2 ?c3 ?_))
      case c1 => simp only [maxLen, List.length_map]; omega
      case c2 => simp only [List.length_map]; omega
      case c3 => exact hsz2
      intro v' w3 hown3 hg3 _
      (try simp only [List.length_map] at hown3)
      rw [← List.map_append] at hown3
      obtain ⟨x2, y2, rfl⟩ := own_slice hown3
      have hO3 : Only (fun x => w1.heap.size ≤ x) w2 w3 := (Only.of_grown hg3).mono fun x _ h => (hown2.lt x h).1
      have hb3 := H2.out.trans (hO3.below H2.out.size fun x hx h => by omega)
      have hQ3 := heap_keep hb3 HX.out.2.2.2.2
      have ht3 := HX.out.2.2.2.1.below hb3
      have q3 := cells_at hQ3 3 _ rfl
      have hlq3 := heap_lt hQ3
      simp only [List.getElem_toArray, List.getElem_cons_succ, List.getElem_cons_zero] at q3
      have hsz3 := hb3.size
      have H3 := Lib.hid hb3
      clear hg3 hb3 hQ3 hO3 hown2 hs2' q2 hlq2 hsz2 H2
      go_upto_region 6 with (fail)
      go_wp2_with (at_builtin; (refine wpList_append_RV rfl _ _ 22 rfl w1.heap.size 3 i (.int .i64 0) 8 Try.underlying22 hi hz0 hz1 hz2 rfl (.slice x2 (R.place.length + R.spare.length) y2) (R.place.length + R.spare.length) _ rfl hown3 _ _ rfl ht3 (oneCell_i64 _) ?c1 ?c2 ?c3 ?_))
      case c1 => simp only [maxLen, List.length_map]; omega
      case c2 => simp only [List.length_map]; omega
      case c3 => exact hsz3
      intro v' w4 hown4 hg4 _
      (try simp only [List.length_map] at hown4)
      rw [← List.map_append] at hown4
      obtain ⟨x3, y3, rfl⟩ := own_slice hown4
      have hO4 : Only (fun x => w1.heap.size ≤ x) w3 w4 := (Only.of_grown hg4).mono fun x _ h => (hown3.lt x h).1
      have hb4 := H3.out.trans (hO4.below H3.out.size fun x hx h => by omega)
      obtain ⟨al, hal2⟩ : ∃ al, al = R.all := ⟨_, rfl⟩
      have hlen : al.length = R.place.length + R.spare.length + R.tabs.length := by rw [hal2]; simp [RTb.all]; omega
      have hRI : RI w4 (.slice x3 al.length y3) al := by
        have := RV.own hown4
        rw [hlen, hal2]
        unfold RI RTb.all
        simp only [List.map_append, List.append_assoc] at this ⊢
        exact this
      rw [← hlen]
      have HAL := Lib.hid (⟨hal2, hRI, HX.out.1.trans (hb4.mono HX.out.1.size)⟩ : _ ∧ _ ∧ _)
      have hll : al.length ≤ 3000 := by omega
      clear hown3 hown4 hg4 hO4 hb4 hal2 hRI hlen ht3 q3 hlq3 hsz3 H3
      go_wp2_with fail
      go_loopw [6] (fun i wr => ∃ k : Nat, k ≤ al.length ∧ i = .int .i64 k ∧ Tried n (al.take k) ∧ Below w4.heap.size w4 wr) (fun i _ => al.length - (intOf i).toNat)
      case atStart => exact ⟨0, Nat.zero_le _, rfl, Tried.nil n, Below.refl _ _⟩
      case round =>
        generalize wr = wo at hrel ⊢
        obtain ⟨k, hk, rfl, htr, hbel⟩ := hrel
        have hBo := HAL.out.2.2.trans (hbel.mono HAL.out.2.2.size)
        by_cases hlt : k < al.length
        · have hka : (k : Int) < (al.length : Int) := by omega
          obtain ⟨bb, bo, bc, e1, x1⟩ := (HAL.out.2.1.below hbel).at hlt
          simp only [Value.slice.injEq] at e1
          obtain ⟨rfl, -, rfl⟩ := e1
          have l1 := cell_lt x1
          have htk : al.take (k + 1) = al.take k ++ [al[k]] := List.take_succ_eq_append_getElem hlt
          have hbad : (al[k] < 0 ∨ (n : Int) ≤ al[k] ∨ al[k] ∈ al.take k) → ∀ w', Below w.heap.size w w' → Post (.returned (.int .i64 62)) w' := fun h w' hb => by
            refine HN.out (fun hok => ?_) w' hb
            have ht := hok.2.2
            rw [← HAL.out.1] at ht
            refine not_tried (n := n) (l := al.take k) (r := al.drop (k + 1)) h ?_
            simpa using ht
          obtain ⟨x, hx⟩ : ∃ x, x = al[k] := ⟨_, rfl⟩
          rw [← hx] at x1 htk hbad
          replace hx : al[k]? = some x := by rw [hx]; exact List.getElem?_eq_getElem hlt
          have HB := Lib.hid hbad
          have HT := Lib.hid (⟨htk, htr, hbel, hlt, hBo, hx⟩ : _ ∧ _ ∧ _ ∧ _ ∧ _ ∧ _)
          clear hbad htk htr hbel hlt hBo hx
          by_cases h0 : x < 0
          · have HE := Lib.hid (HB.out (.inl h0) wo HT.out.2.2.2.2.1)
            go_wp2_with fail
            exact HE.out
          · have e1 : decide (x < 0) = false := by simp; omega
            by_cases h1 : (n : Int) ≤ x
            · have HE := Lib.hid (HB.out (.inr (.inl h1)) wo HT.out.2.2.2.2.1)
              go_wp2_with fail
              exact HE.out
            · have e2 : decide ((n : Int) ≤ x) = false := by simp; omega
              have HNN := Lib.hid (⟨h0, h1⟩ : _ ∧ _)
              have hkl : k ≤ al.length := hk
              clear h0 h1
              go_wp2_with fail
              clear e1 e2
              go_loopw [7] (fun i wr => ∃ m : Nat, m ≤ k ∧ i = .int .i64 m ∧ x ∉ al.take m ∧ Below w4.heap.size w4 wr) (fun i _ => k - (intOf i).toNat)
              case atStart => exact ⟨0, Nat.zero_le _, rfl, by simp, HT.out.2.2.1⟩
              case round =>
                obtain ⟨m, hm, rfl, hnx, hbm⟩ := hrel
                clear x1 l1
                have hBm := HAL.out.2.2.trans (hbm.mono HAL.out.2.2.size)
                by_cases hmk : m < k
                · have hmk' : (m : Int) < (k : Int) := by omega
                  have hml : m < al.length := by omega
                  have hml' : (m : Int) < (al.length : Int) := by omega
                  have hr := HAL.out.2.1.below hbm
                  obtain ⟨b1, o1, c1', e1, y1⟩ := hr.at hml
                  have hkl2 : k < al.length := HT.out.2.2.2.1
                  obtain ⟨b2, o2, c2', e2, y2⟩ := hr.at hkl2
                  have hxk : al[k] = x := Option.some.inj ((List.getElem?_eq_getElem hkl2).symm.trans HT.out.2.2.2.2.2)
                  simp only [Value.slice.injEq, Option.some.injEq, Addr.mk.injEq] at e1 e2
                  obtain ⟨⟨rfl, rfl, -⟩, -, rfl⟩ := e1
                  obtain ⟨⟨rfl, rfl, -⟩, -, -⟩ := e2
                  rw [hxk] at y2
                  have l2 := cell_lt y2
                  have hmt : al.take (m + 1) = al.take m ++ [al[m]] := List.take_succ_eq_append_getElem hml
                  have hin : al[m] = x → x ∈ al.take k := fun h => by
                    rw [← h]
                    exact List.mem_take_iff_getElem.mpr ⟨m, by omega, rfl⟩
                  generalize al[m] = y at y1 hmt hin
                  have HM := Lib.hid (⟨hmt, hin, hnx, hbm, hmk, hBm⟩ : _ ∧ _ ∧ _ ∧ _ ∧ _ ∧ _)
                  clear hmt hin hnx hbm hmk hBm hr hxk
                  by_cases hxy : y = x
                  · have e3 : (y == x) = true := by simp [hxy]
                    have HE := Lib.hid (HB.out (.inr (.inr (HM.out.2.1 hxy))) wr.drew HM.out.2.2.2.2.2.drew)
                    clear hxy HM HB
                    go_wp2_with fail
                    (refine wp_region_mix [0, 1, 2, 3, 4, 5, 6, 7, 8] [(true, true), (true, true), (true, true), (true, false), (true, true), (true, true), (true, true), (true, false), (true, true)] [0, 0, 3, 7, 0, 0, 48, 112, 255] _ (by kernel_rfl) (by kernel_rfl) (rfl : _ = _) ?_; simp only [pickL, List.map_cons, List.map_nil, List.getD_cons_succ, List.getD_cons_zero])
                    (repeat (first | (refine mix_pure (fun hne K hK => ?_); go_simp; refine hK _ ?_; clear hK K hne) | (refine mix_load ?_ (fun K hK => ?_); (focus (first | rfl | (go_simp; done))); go_simp; refine hK _ ?_; clear hK K) | (refine mix_skip ?_ (fun K hK => ?_); (focus (first | rfl | (go_simp; done))); go_simp; refine hK _ ?_; clear hK K)))
                    refine mix_done ?_
                    clear y1 y2
                    go_wp2_with fail
                    exact HE.out
                  · have e3 : (y == x) = false := by simp [hxy]
                    have HXY := Lib.hid hxy
                    clear hxy
                    go_wp2_with fail
                    (refine wp_region_mix [0, 1, 2, 3, 4, 5, 6, 7, 8] [(true, true), (true, true), (true, true), (true, false), (true, true), (true, true), (true, true), (true, false), (true, true)] [0, 0, 3, 7, 0, 0, 48, 112, 255] _ (by kernel_rfl) (by kernel_rfl) (rfl : _ = _) ?_; simp only [pickL, List.map_cons, List.map_nil, List.getD_cons_succ, List.getD_cons_zero])
                    (repeat (first | (refine mix_pure (fun hne K hK => ?_); go_simp; refine hK _ ?_; clear hK K hne) | (refine mix_load ?_ (fun K hK => ?_); (focus (first | rfl | (go_simp; done))); go_simp; refine hK _ ?_; clear hK K) | (refine mix_skip ?_ (fun K hK => ?_); (focus (first | rfl | (go_simp; done))); go_simp; refine hK _ ?_; clear hK K)))
                    refine mix_done ?_
                    clear y1 y2
                    go_wp2_with fail
                    obtain ⟨hmt, hin, hnx, hbm, hmk, hBm⟩ := HM.out
                    go_roundw
                    case rel => exact ⟨m + 1, hmk, by go_num, by rw [hmt]; intro h; rcases List.mem_append.mp h with h | h; exact hnx h; exact HXY.out (List.mem_singleton.mp h).symm, hbm.drew⟩
                    case measure => simp [intOf]; omega
                · obtain rfl : m = k := by omega
                  have htr2 : Tried n (al.take (m + 1)) := by
                    rw [HT.out.1]
                    exact HT.out.2.1.snoc (by have := HNN.out.1; omega) (by have := HNN.out.2; omega) hnx
                  have HZ := Lib.hid (⟨HT.out.2.2.2.1, htr2, hbm⟩ : _ ∧ _ ∧ _)
                  clear hnx hbm hBm htr2 HT HB HNN
                  go_wp2_with fail
                  go_roundw
                  case rel => exact ⟨m + 1, HZ.out.1, by go_num, HZ.out.2.1, HZ.out.2.2⟩
                  case measure => have := HZ.out.1; simp [intOf]; omega
        · obtain rfl : k = al.length := by omega
          rw [List.take_length] at htr
          have hok : R.Ok n := ⟨H12.out.1, H12.out.2, by rw [← HAL.out.1]; exact htr⟩
          have HE := Lib.hid (HY.out hok wo hBo)
          clear htr hbel hok hBo
          go_wp2_with fail
          exact HE.out
end Go.Proofs.Ytogejjbclimjjaa
