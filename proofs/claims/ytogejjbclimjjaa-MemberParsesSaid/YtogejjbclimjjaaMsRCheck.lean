/- Layer 12's answer: Check. -/
--only r2
import Derived.Test.YtogejjbclimjjaaMsGood
import Derived.Test.YtogejjbclimjjaaMsCheck
namespace Go.Proofs.Ytogejjbclimjjaa
set_option linter.unusedVariables false
set_option linter.unusedSimpArgs false
open Go.RowKit

set_option maxRecDepth 100000 in
set_option maxHeartbeats 4000000 in
theorem msrcheck_calls (n b p s : Nat) (S : Ms) (v : Value) (w : World) (hS : RMsAt w S v) (hg : geoOk n b p s) (hcl : S.chips.length ≤ 1000) :
    Calls Try.prog 52 #[v, geoV n b p s] w (MCheckEnds n b S w) := by
  have hyes : S.Ok n b → ∀ w', Below w.heap.size w w' → MCheckEnds n b S w (.returned (.int .i64 0)) w' := fun h w' hb => ⟨by unfold Ms.err; rw [if_pos h]; rfl, hb⟩
  have hno : ¬ S.Ok n b → ∀ w', Below w.heap.size w w' → MCheckEnds n b S w (.returned (.int .i64 62)) w' := fun h w' hb => ⟨by unfold Ms.err; rw [if_neg h]; rfl, hb⟩
  generalize MCheckEnds n b S w = Post at hyes hno ⊢
  have HY := Lib.hid hyes
  have HN := Lib.hid hno
  clear hyes hno
  obtain ⟨i, hi, hz0, hz1, hz2⟩ := info_parts infoI64
  obtain ⟨vc, rfl, hri⟩ := hS.ex
  obtain ⟨a, cap, rfl, hcap, hmax⟩ := hri.form
  obtain ⟨g1, g2, g3, g4, -⟩ := hg
  obtain ⟨q, hq⟩ : ∃ q, q = w.heap.size := ⟨_, rfl⟩
  obtain ⟨sq, xs, sp, dd, dn⟩ := S
  simp only at hcl hri hcap HY HN ⊢
  obtain ⟨w1, hw1⟩ : ∃ w1, w1 = (w.alloc (.cells #[.int .i64 sq, .slice a xs.length cap, .int .i64 sp, .int .i64 dd, .int .i64 dn] 33)).alloc (.cells #[.int .i64 n, .int .i64 b, .int .i64 p, .int .i64 s] 28) := ⟨_, rfl⟩
  have hal : Below w.heap.size w w1 := by rw [hw1]; exact ((Below.refl w.heap.size w).alloc (Nat.le_refl _) _).alloc (by simp) _
  have hQ : w1.heap[q]? = some (.cells #[.int .i64 sq, .slice a xs.length cap, .int .i64 sp, .int .i64 dd, .int .i64 dn] 33 (0, 0)) := by rw [hw1]; exact heap_old _ (heap_is hq)
  have hG : w1.heap[q + 1]? = some (.cells #[.int .i64 n, .int .i64 b, .int .i64 p, .int .i64 s] 28 (0, 0)) := by rw [hw1]; exact heap_is (by simp [hq])
  have HX := Lib.hid (⟨hal, hQ, hG, hri.below hal⟩ : _ ∧ _ ∧ _ ∧ _)
  have HW := Lib.hid hw1
  have p1 := cells_at hQ 1 _ rfl
  have p2 := cells_at hQ 2 _ rfl
  have p3 := cells_at hQ 3 _ rfl
  have p4 := cells_at hQ 4 _ rfl
  have k0 := cells_at hG 0 _ rfl
  have k1 := cells_at hG 1 _ rfl
  simp only [List.getElem_toArray, List.getElem_cons_succ, List.getElem_cons_zero] at p1 p2 p3 p4 k0 k1
  have hlq := heap_lt hQ
  have hlg := heap_lt hG
  have hbad : (⟨sq, xs, sp, dd, dn⟩ : Ms).bad n b → Post (.returned (.int .i64 62)) w1 := fun h => HN.out (fun hok => hok.1 h) w1 HX.out.1
  have HBAD := Lib.hid hbad
  have ew : IntKind.i64.wrap ((b : Int) - 5) = (b : Int) - 5 := IntWalk.i64_in _ (by omega)
  clear hal hQ hG hri hS hw1 hbad
  go_enter Try.func52, Try.ntmps52
  go_upto_region 1 with (fail)
  rw [← hq, ← HW.out]
  clear hq HW
  by_cases c1 : (xs.length : Int) = (n : Int)
  rotate_left
  · have e1 : ((xs.length : Int) != (n : Int)) = true := by simpa using c1
    have HE := Lib.hid (HBAD.out (.inl c1))
    clear c1
    go_wp2_with fail
    exact HE.out
  have e1 : ((xs.length : Int) != (n : Int)) = false := by simpa using c1
  have HXL := Lib.hid c1
  clear c1
  by_cases c2 : dd ≠ 255 ∧ (dd < 0 ∨ (n : Int) ≤ dd)
  · have e2 : (dd != 255) = true := by simpa using c2.1
    have HE := Lib.hid (HBAD.out (.inr (.inl c2)))
    by_cases c3 : dd < 0
    · have e3 : decide (dd < 0) = true := by simp; omega
      clear c2
      go_wp2_with fail
      exact HE.out
    · have e3 : decide (dd < 0) = false := by simp; omega
      have c4 : (n : Int) ≤ dd := by omega
      clear c2
      go_wp2_with fail
      exact HE.out
  have HC2 := Lib.hid c2
  go_cut [43] (fun s43 wx => s43 = .bool (decide (dn < 0 ∨ (b : Int) - 5 < dn)) ∧ wx = w1)
  case first =>
    by_cases d1 : dn < 0
    · have e3 : decide (dn < 0) = true := by simp; omega
      have e9 : decide (dn < 0 ∨ (b : Int) - 5 < dn) = true := by simp; omega
      by_cases c3 : dd = 255
      · have e2 : (dd != 255) = false := by simpa using c3
        clear c2 d1 c3
        go_wp2_with fail
        go_meet
        exact ⟨by rw [e9], rfl⟩
      · have e2 : (dd != 255) = true := by simpa using c3
        have e4 : decide (dd < 0) = false := by simp; omega
        have e5 : decide ((n : Int) ≤ dd) = false := by simp; omega
        clear c2 d1 c3
        go_wp2_with fail
        go_meet
        exact ⟨by rw [e9], rfl⟩
    · have e3 : decide (dn < 0) = false := by simp; omega
      have e9 : decide (dn < 0 ∨ (b : Int) - 5 < dn) = decide ((b : Int) - 5 < dn) := by simp only [decide_eq_decide]; omega
      by_cases c3 : dd = 255
      · have e2 : (dd != 255) = false := by simpa using c3
        clear c2 d1 c3
        go_wp2_with fail
        go_meet
        exact ⟨by rw [e9], rfl⟩
      · have e2 : (dd != 255) = true := by simpa using c3
        have e4 : decide (dd < 0) = false := by simp; omega
        have e5 : decide ((n : Int) ≤ dd) = false := by simp; omega
        clear c2 d1 c3
        go_wp2_with fail
        go_meet
        exact ⟨by rw [e9], rfl⟩
  case rest =>
    obtain ⟨rfl, rfl⟩ := hcut
    clear c2
    by_cases d1 : dn < 0 ∨ (b : Int) - 5 < dn
    · have e1 : decide (dn < 0 ∨ (b : Int) - 5 < dn) = true := by simpa using d1
      have HE := Lib.hid (HBAD.out (by show _ ∨ _ ∨ _ ∨ _ ∨ _; simp only; omega))
      rw [e1]
      clear d1
      go_wp2_with fail
      exact HE.out
    have e0 : decide (dn < 0 ∨ (b : Int) - 5 < dn) = false := by simpa using d1
    rw [e0]
    have HD1 := Lib.hid d1
    clear e0 d1
    have hD1 : ¬ (dn < 0) := fun h => HD1.out (.inl h)
    go_upto_region 3 with (fail)
    go_cut [56] (fun s56 wx => s56 = .bool (decide (0 < dn ∧ (dd = 255 ∨ sp = 255))) ∧ wx = wc)
    case first =>
      by_cases c5 : 0 < dn
      · have e5 : decide (0 < dn) = true := by simpa using c5
        by_cases c6 : dd = 255
        · have e6 : (dd == 255) = true := by simpa using c6
          have e9 : decide (0 < dn ∧ (dd = 255 ∨ sp = 255)) = true := by simpa using ⟨c5, .inl c6⟩
          clear c5 c6
          go_wp2_with fail
          go_meet
          exact ⟨by rw [e9], rfl⟩
        · have e6 : (dd == 255) = false := by simpa using c6
          have e9 : decide (0 < dn ∧ (dd = 255 ∨ sp = 255)) = (sp == 255) := by
            by_cases h : sp = 255
            · simp [h, c5]
            · simp [h, c6]
          clear c5 c6
          go_wp2_with fail
          go_meet
          exact ⟨by rw [e9], rfl⟩
      · have e5 : decide (0 < dn) = false := by simpa using c5
        have e9 : decide (0 < dn ∧ (dd = 255 ∨ sp = 255)) = false := by simp [c5]
        clear c5
        go_wp2_with fail
        go_meet
        exact ⟨by rw [e9], rfl⟩
    case rest =>
      obtain ⟨rfl, rfl⟩ := hcut
      by_cases d2 : 0 < dn ∧ (dd = 255 ∨ sp = 255)
      · have e1 : decide (0 < dn ∧ (dd = 255 ∨ sp = 255)) = true := by simpa using d2
        have HE := Lib.hid (HBAD.out (.inr (.inr (.inr (.inr d2)))))
        rw [e1]
        clear d2
        go_wp2_with fail
        exact HE.out
      have e0 : decide (0 < dn ∧ (dd = 255 ∨ sp = 255)) = false := by simpa using d2
      rw [e0]
      have HNB := Lib.hid (show ¬ (⟨sq, xs, sp, dd, dn⟩ : Ms).bad n b from fun h => by
        have h1 := HXL.out
        have h2 := HC2.out
        have h3 := HD1.out
        unfold Ms.bad at h
        simp only at h
        rcases h with h | h | h | h | h
        · exact h h1
        · exact h2 h
        · exact h3 (.inl h)
        · exact h3 (.inr h)
        · exact d2 h)
      clear e0 d2 hD1 HBAD HC2 HD1 p3 p4 k1
      go_upto_region 6 with (fail)
      go_wp2_with (at_builtin; (refine wpList_append_RV rfl _ _ 22 rfl wc.heap.size 3 i (.int .i64 0) 8 Try.underlying22 hi hz0 hz1 hz2 rfl (.slice none 0 0) 0 [] rfl (World.ownsRow_nil _ _ _ _) _ _ rfl HX.out.2.2.2 (oneCell_i64 _) ?c1 ?c2 ?c3 ?_))
      case c1 => simp only [maxLen, List.length_map]; omega
      case c2 => simp only [List.length_map]; omega
      case c3 => exact Nat.le_refl _
      intro v4 w4 hown4 hg4 _
      (try simp only [Nat.zero_add, List.nil_append, List.length_map] at hown4)
      obtain ⟨a4, c4, rfl⟩ := own_slice hown4
      have hb4 := below_grown_none hg4
      have hQ4 := heap_keep hb4 HX.out.2.1
      have H4 := Lib.hid (⟨hown4, heap_keep hb4 HX.out.2.2.1, HX.out.1.trans (hb4.mono HX.out.1.size), hb4.size⟩ : _ ∧ _ ∧ _ ∧ _)
      have p2 := cells_at hQ4 2 _ rfl
      simp only [List.getElem_toArray, List.getElem_cons_succ, List.getElem_cons_zero] at p2
      have hlq := heap_lt hQ4
      obtain ⟨al, hal2⟩ : ∃ al, al = (⟨sq, xs, sp, dd, dn⟩ : Ms).list := ⟨_, rfl⟩
      have hali : al = if sp = 255 then xs else xs ++ [sp] := hal2
      obtain ⟨la, hla⟩ : ∃ la, la = al.length := ⟨_, rfl⟩
      have hll : la ≤ 1001 := by rw [hla, hali]; split <;> (try simp) <;> omega
      have HAI := Lib.hid (⟨hali, hla⟩ : _ ∧ _)
      have HA2 := Lib.hid hal2
      have HWB := Lib.hid (HX.out.1.size)
      clear hown4 hg4 hb4 hQ4 hal2 hali hla p1 k0 hlg
      go_upto_if 63 with (fail)
      go_cut [5] (fun s5 wx => ∃ x3 y3, s5 = .slice x3 la y3 ∧ RI wx (.slice x3 la y3) al ∧ Below w.heap.size w wx ∧ wx.heap[q + 1]? = some (.cells #[.int .i64 n, .int .i64 b, .int .i64 p, .int .i64 s] 28 (0, 0)))
      case first =>
        by_cases hs : sp = 255
        · have e1 : (sp != 255) = false := by simpa using hs
          have hLx : al = xs := by rw [HAI.out.1, if_pos hs]
          obtain rfl : la = xs.length := by rw [HAI.out.2, hLx]
          have hr : RI w4 (.slice a4 xs.length c4) al := by rw [hLx]; exact RV.own H4.out.1
          have HR := Lib.hid (⟨hr, H4.out.2.2.1, H4.out.2.1⟩ : _ ∧ _ ∧ _)
          clear hr hLx hs
          go_wp2_with fail
          go_meet
          exact ⟨a4, c4, rfl, HR.out⟩
        · have e1 : (sp != 255) = true := by simpa using hs
          have hLx : al = xs ++ [sp] := by rw [HAI.out.1, if_neg hs]
          obtain rfl : la = xs.length + 1 := by rw [HAI.out.2, hLx]; simp
          have hown4a := H4.out.1.alloc (.cells #[.int .i64 sp] 3)
          have hal5 := (Below.refl w4.heap.size w4).alloc (Nat.le_refl _) (.cells #[.int .i64 sp] 3)
          have hB5 := H4.out.2.2.1.trans (hal5.mono H4.out.2.2.1.size)
          have hG5 := heap_keep hal5 H4.out.2.1
          have hrv : RV (w4.alloc (.cells #[.int .i64 sp] 3)) (.slice (some ⟨w4.heap.size, 0, none⟩) 1 1) [.int .i64 sp] := RV.cells (n := 1) (heap_is rfl) rfl (by decide) rfl
          have hsz5 := Nat.le_trans H4.out.2.2.2 hal5.size
          have hqg : q + 1 < wc.heap.size := heap_lt HX.out.2.2.1
          have H5 := Lib.hid (⟨hB5, hG5, hsz5, hqg⟩ : _ ∧ _ ∧ _ ∧ _)
          clear hal5 hB5 hG5 hs hqg
          go_wp2_with (at_builtin; (refine wpList_append_RV rfl _ _ 22 rfl wc.heap.size 3 i (.int .i64 0) 8 Try.underlying22 hi hz0 hz1 hz2 rfl (.slice a4 xs.length c4) xs.length _ rfl hown4a _ _ rfl hrv (one_cell rfl) ?c1 ?c2 ?c3 ?_))
          case c1 => simp only [maxLen, List.length_cons, List.length_nil]; omega
          case c2 => simp only [List.length_cons, List.length_nil]; omega
          case c3 => exact hsz5
          intro v5 w5 hown5 hg5 _
          have hB := below_pushed H5.out.1 hown4a hg5 H5.out.1.size HWB.out
          have hbs := below_pushed (Below.refl wc.heap.size (w4.alloc (.cells #[.int .i64 sp] 3))) hown4a hg5 hsz5 (Nat.le_refl _)
          have hG5 := (hbs.block (q + 1) H5.out.2.2.2).trans H5.out.2.1
          have hown5' : w5.ownsRow wc.heap.size 3 1 v5 (xs.length + 1) (al.map i64v) := by rw [hLx, List.map_append]; exact hown5
          obtain ⟨a5, c5, rfl⟩ := own_slice hown5'
          have HR := Lib.hid (⟨(RV.own hown5' : RI _ _ _), hB, hG5⟩ : _ ∧ _ ∧ _)
          clear hown5 hown5' hg5 hbs hB hG5 hown4a hrv hsz5 H5 hLx
          go_wp2_with fail
          go_meet
          exact ⟨a5, c5, rfl, HR.out⟩
      case rest =>
        obtain ⟨x3, y3, rfl, hRI, hB5, hG5⟩ := hcut
        obtain ⟨hali, rfl⟩ := HAI.out
        have HAL := Lib.hid (⟨HA2.out, hRI, hB5, hG5⟩ : _ ∧ _ ∧ _ ∧ _)
        clear hRI hB5 hG5 hali HAI HA2 H4 p2 hlq
        go_wp2_with fail
        go_loopw [6] (fun i wr => ∃ k : Nat, k ≤ al.length ∧ i = .int .i64 k ∧ Tried (n + 1) (al.take k) ∧ Below wc.heap.size wc wr) (fun i _ => al.length - (intOf i).toNat)
        case atStart => exact ⟨0, Nat.zero_le _, rfl, Tried.nil (n + 1), Below.refl _ _⟩
        case round =>
          generalize wr = wo at hrel ⊢
          obtain ⟨k, hk, rfl, htr, hbel⟩ := hrel
          have hBo := HAL.out.2.2.1.trans (hbel.mono HAL.out.2.2.1.size)
          have hGo := heap_keep hbel HAL.out.2.2.2
          by_cases hlt : k < al.length
          · have hka : (k : Int) < (al.length : Int) := by omega
            obtain ⟨bb, bo, bc, e1, x1⟩ := (HAL.out.2.1.below hbel).at hlt
            simp only [Value.slice.injEq] at e1
            obtain ⟨rfl, -, rfl⟩ := e1
            have l1 := cell_lt x1
            have k0 := cells_at hGo 0 _ rfl
            simp only [List.getElem_toArray, List.getElem_cons_succ, List.getElem_cons_zero] at k0
            have hlg := heap_lt hGo
            have htk : al.take (k + 1) = al.take k ++ [al[k]] := List.take_succ_eq_append_getElem hlt
            have hbad : (al[k] < 0 ∨ (n : Int) < al[k] ∨ al[k] ∈ al.take k) → ∀ w', Below w.heap.size w w' → Post (.returned (.int .i64 62)) w' := fun h w' hb => by
              refine HN.out (fun hok => ?_) w' hb
              have ht := (good_tried n _).mp hok.2
              rw [← HAL.out.1] at ht
              refine not_tried (n := n + 1) (l := al.take k) (r := al.drop (k + 1)) (x := al[k]) ?_ ?_
              · rcases h with h | h | h
                · exact .inl h
                · exact .inr (.inl (by omega))
                · exact .inr (.inr h)
              · simpa using ht
            obtain ⟨x, hx⟩ : ∃ x, x = al[k] := ⟨_, rfl⟩
            rw [← hx] at x1 htk hbad
            replace hx : al[k]? = some x := by rw [hx]; exact List.getElem?_eq_getElem hlt
            have HB := Lib.hid hbad
            have HT := Lib.hid (⟨htk, htr, hbel, hlt, hBo, hx⟩ : _ ∧ _ ∧ _ ∧ _ ∧ _ ∧ _)
            clear hbad htk htr hbel hlt hBo hx hGo
            by_cases h0 : x < 0
            · have e1 : decide (x < 0) = true := by simpa using h0
              have HE := Lib.hid (HB.out (.inl h0) wo.drew HT.out.2.2.2.2.1.drew)
              clear h0
              go_wp2_with fail
              (refine wp_region_mix [0, 1, 2, 3, 4, 5, 6, 7, 8, 9, 10, 11, 12, 13] [(true, true), (true, true), (true, true), (true, false), (true, true), (true, true), (true, true), (true, true), (true, true), (true, false), (true, true), (true, false), (true, true), (true, true)] [0, 0, 3, 7, 15, 31, 63, 63, 255, 511, 63, 1087, 4095, 8191] _ (by kernel_rfl) (by kernel_rfl) (rfl : _ = _) ?_; simp only [pickL, List.map_cons, List.map_nil, List.getD_cons_succ, List.getD_cons_zero])
              (repeat (first | (refine mix_pure (fun hne K hK => ?_); go_simp; refine hK _ ?_; clear hK K hne) | (refine mix_load ?_ (fun K hK => ?_); (focus (first | rfl | (go_simp; done))); go_simp; refine hK _ ?_; clear hK K) | (refine mix_skip ?_ (fun K hK => ?_); (focus (first | rfl | (go_simp; done))); go_simp; refine hK _ ?_; clear hK K)))
              refine mix_done ?_
              clear x1 k0
              go_wp2_with fail
              exact HE.out
            · have e1 : decide (x < 0) = false := by simp; omega
              by_cases h1 : (n : Int) < x
              · have e2 : decide ((n : Int) < x) = true := by simpa using h1
                have HE := Lib.hid (HB.out (.inr (.inl h1)) wo.drew HT.out.2.2.2.2.1.drew)
                clear h0 h1
                go_wp2_with fail
                (refine wp_region_mix [0, 1, 2, 3, 4, 5, 6, 7, 8, 9, 10, 11, 12, 13] [(true, true), (true, true), (true, true), (true, false), (true, true), (true, true), (true, true), (true, true), (true, true), (true, false), (true, true), (true, false), (true, true), (true, true)] [0, 0, 3, 7, 15, 31, 63, 63, 255, 511, 63, 1087, 4095, 8191] _ (by kernel_rfl) (by kernel_rfl) (rfl : _ = _) ?_; simp only [pickL, List.map_cons, List.map_nil, List.getD_cons_succ, List.getD_cons_zero])
                (repeat (first | (refine mix_pure (fun hne K hK => ?_); go_simp; refine hK _ ?_; clear hK K hne) | (refine mix_load ?_ (fun K hK => ?_); (focus (first | rfl | (go_simp; done))); go_simp; refine hK _ ?_; clear hK K) | (refine mix_skip ?_ (fun K hK => ?_); (focus (first | rfl | (go_simp; done))); go_simp; refine hK _ ?_; clear hK K)))
                refine mix_done ?_
                clear x1 k0
                go_wp2_with fail
                exact HE.out
              · have e2 : decide ((n : Int) < x) = false := by simp; omega
                have HNN := Lib.hid (⟨h0, h1⟩ : _ ∧ _)
                have hkl : k ≤ al.length := hk
                clear h0 h1
                go_wp2_with fail
                (refine wp_region_mix [0, 1, 2, 3, 4, 5, 6, 7, 8, 9, 10, 11, 12, 13] [(true, true), (true, true), (true, true), (true, false), (true, true), (true, true), (true, true), (true, true), (true, true), (true, false), (true, true), (true, false), (true, true), (true, true)] [0, 0, 3, 7, 15, 31, 63, 63, 255, 511, 63, 1087, 4095, 8191] _ (by kernel_rfl) (by kernel_rfl) (rfl : _ = _) ?_; simp only [pickL, List.map_cons, List.map_nil, List.getD_cons_succ, List.getD_cons_zero])
                (repeat (first | (refine mix_pure (fun hne K hK => ?_); go_simp; refine hK _ ?_; clear hK K hne) | (refine mix_load ?_ (fun K hK => ?_); (focus (first | rfl | (go_simp; done))); go_simp; refine hK _ ?_; clear hK K) | (refine mix_skip ?_ (fun K hK => ?_); (focus (first | rfl | (go_simp; done))); go_simp; refine hK _ ?_; clear hK K)))
                refine mix_done ?_
                clear x1 k0 l1
                go_wp2_with fail
                clear e1 e2
                go_loopw [7] (fun i wr => ∃ m : Nat, m ≤ k ∧ i = .int .i64 m ∧ x ∉ al.take m ∧ Below wc.heap.size wc wr) (fun i _ => k - (intOf i).toNat)
                case atStart => exact ⟨0, Nat.zero_le _, rfl, by simp, HT.out.2.2.1.drew⟩
                case round =>
                  obtain ⟨m, hm, rfl, hnx, hbm⟩ := hrel
                  have hBm := HAL.out.2.2.1.trans (hbm.mono HAL.out.2.2.1.size)
                  by_cases hmk : m < k
                  · have hmk' : (m : Int) < (k : Int) := by omega
                    have hml : m < al.length := by omega
                    have hml' : (m : Int) < (al.length : Int) := by omega
                    have hr := HAL.out.2.1.below hbm
                    obtain ⟨b1, o1, c1', e1, y1⟩ := hr.at hml
                    have hkl2 : k < al.length := HT.out.2.2.2.1
                    obtain ⟨b2, o2, c2', e2, y2⟩ := hr.at hkl2
                    have hxk : al[k] = x := Option.some.inj ((List.getElem?_eq_getElem hkl2).symm.trans HT.out.2.2.2.2.2)
                    simp only [Value.slice.injEq, Option.some.injEq, Addr.mk.injEq] at e1 e2
                    obtain ⟨⟨rfl, rfl, -⟩, -, rfl⟩ := e1
                    obtain ⟨⟨rfl, rfl, -⟩, -, -⟩ := e2
                    rw [hxk] at y2
                    have l2 := cell_lt y2
                    have hmt : al.take (m + 1) = al.take m ++ [al[m]] := List.take_succ_eq_append_getElem hml
                    have hin : al[m] = x → x ∈ al.take k := fun h => by
                      rw [← h]
                      exact List.mem_take_iff_getElem.mpr ⟨m, by omega, rfl⟩
                    generalize al[m] = y at y1 hmt hin
                    have HM := Lib.hid (⟨hmt, hin, hnx, hbm, hmk, hBm⟩ : _ ∧ _ ∧ _ ∧ _ ∧ _ ∧ _)
                    clear hmt hin hnx hbm hmk hBm hr hxk
                    by_cases hxy : y = x
                    · have e3 : (y == x) = true := by simp [hxy]
                      have HE := Lib.hid (HB.out (.inr (.inr (HM.out.2.1 hxy))) wr.drew HM.out.2.2.2.2.2.drew)
                      clear hxy HM HB
                      go_wp2_with fail
                      (refine wp_region_mix [0, 1, 2, 3, 4, 5, 6, 7, 8] [(true, true), (true, true), (true, true), (true, false), (true, true), (true, true), (true, true), (true, false), (true, true)] [0, 0, 3, 7, 0, 0, 48, 112, 255] _ (by kernel_rfl) (by kernel_rfl) (rfl : _ = _) ?_; simp only [pickL, List.map_cons, List.map_nil, List.getD_cons_succ, List.getD_cons_zero])
                      (repeat (first | (refine mix_pure (fun hne K hK => ?_); go_simp; refine hK _ ?_; clear hK K hne) | (refine mix_load ?_ (fun K hK => ?_); (focus (first | rfl | (go_simp; done))); go_simp; refine hK _ ?_; clear hK K) | (refine mix_skip ?_ (fun K hK => ?_); (focus (first | rfl | (go_simp; done))); go_simp; refine hK _ ?_; clear hK K)))
                      refine mix_done ?_
                      clear y1 y2
                      go_wp2_with fail
                      exact HE.out
                    · have e3 : (y == x) = false := by simp [hxy]
                      have HXY := Lib.hid hxy
                      clear hxy
                      go_wp2_with fail
                      (refine wp_region_mix [0, 1, 2, 3, 4, 5, 6, 7, 8] [(true, true), (true, true), (true, true), (true, false), (true, true), (true, true), (true, true), (true, false), (true, true)] [0, 0, 3, 7, 0, 0, 48, 112, 255] _ (by kernel_rfl) (by kernel_rfl) (rfl : _ = _) ?_; simp only [pickL, List.map_cons, List.map_nil, List.getD_cons_succ, List.getD_cons_zero])
                      (repeat (first | (refine mix_pure (fun hne K hK => ?_); go_simp; refine hK _ ?_; clear hK K hne) | (refine mix_load ?_ (fun K hK => ?_); (focus (first | rfl | (go_simp; done))); go_simp; refine hK _ ?_; clear hK K) | (refine mix_skip ?_ (fun K hK => ?_); (focus (first | rfl | (go_simp; done))); go_simp; refine hK _ ?_; clear hK K)))
                      refine mix_done ?_
                      clear y1 y2
                      go_wp2_with fail
                      obtain ⟨hmt, hin, hnx, hbm, hmk, hBm⟩ := HM.out
                      go_roundw
                      case rel => exact ⟨m + 1, hmk, by go_num, by rw [hmt]; intro h; rcases List.mem_append.mp h with h | h; exact hnx h; exact HXY.out (List.mem_singleton.mp h).symm, hbm.drew⟩
                      case measure => simp [intOf]; omega
                  · obtain rfl : m = k := by omega
                    have htr2 : Tried (n + 1) (al.take (m + 1)) := by
                      rw [HT.out.1]
                      exact HT.out.2.1.snoc (by have := HNN.out.1; omega) (by have := HNN.out.2; omega) hnx
                    have HZ := Lib.hid (⟨HT.out.2.2.2.1, htr2, hbm⟩ : _ ∧ _ ∧ _)
                    clear hnx hbm hBm htr2 HT HB HNN
                    go_wp2_with fail
                    go_roundw
                    case rel => exact ⟨m + 1, HZ.out.1, by go_num, HZ.out.2.1, HZ.out.2.2⟩
                    case measure => have := HZ.out.1; simp [intOf]; omega
          · obtain rfl : k = al.length := by omega
            rw [List.take_length] at htr
            have hok : (⟨sq, xs, sp, dd, dn⟩ : Ms).Ok n b := ⟨HNB.out, by rw [← HAL.out.1]; exact (good_tried n al).mpr htr⟩
            have HE := Lib.hid (HY.out hok wo hBo)
            clear htr hbel hok hBo hGo
            go_wp2_with fail
            exact HE.out
end Go.Proofs.Ytogejjbclimjjaa
