/- Layer 12's answer: Page, of a set that is one. -/
--only r2
import Derived.Test.YtogejjbclimjjaaMsSealed
import Derived.Test.YtogejjbclimjjaaRefPad
import Derived.Test.YtogejjbclimjjaaMsOf
namespace Go.Proofs.Ytogejjbclimjjaa
set_option linter.unusedVariables false
set_option linter.unusedSimpArgs false
open Go.RowKit

def RMPageEnds (S : Ms) (b p s : Nat) (w : World) (e : Ending) (w' : World) : Prop :=
  ∃ x y, e = .returned (.tuple #[x, y]) ∧ RB w' x (msD S b p s) ∧ RB w' y (sealB (msH S) (msD S b p s) []) ∧ Below w.heap.size w w'

set_option maxRecDepth 100000 in
set_option maxHeartbeats 2000000 in
theorem msrpage_calls (n b pp s : Nat) (S : Ms) (v : Value) (w : World) (hS : RMsAt w S v) (hg : geoOk n b pp s) (hok : S.Ok n b) (hseq : S.seq < 4294967296) :
    Calls Try.prog 11 #[v, geoV n b pp s] w (RMPageEnds S b pp s w) := by
  have hfin : ∀ x y w', RB w' x (msD S b pp s) → RB w' y (sealB (msH S) (msD S b pp s) []) → Below w.heap.size w w' → RMPageEnds S b pp s w (.returned (.tuple #[x, y])) w' := fun x y w' h1 h2 h3 => ⟨x, y, rfl, h1, h2, h3⟩
  generalize RMPageEnds S b pp s w = Post at hfin ⊢
  have HF := Lib.hid hfin
  clear hfin
  obtain ⟨i, hi, hz0, hz1, hz2⟩ := info_parts infoU8
  obtain ⟨g1, g2, g3, g4, g5, g6, g7, g8, -⟩ := id hg
  obtain ⟨hcl, hcb, hsb, hdb, hnb⟩ := hok.byte (by omega) (by omega)
  obtain ⟨vc, rfl, hri⟩ := hS.ex
  obtain ⟨a, cap, rfl, hcap, hmax⟩ := hri.form
  obtain ⟨q, hq⟩ : ∃ q, q = w.heap.size := ⟨_, rfl⟩
  have hBl : ∀ w' x, w'.ownsRow w.heap.size 5 1 x (14 + n) ((msB S b pp s).map u8v) → RB w' x (msB S b pp s) := fun w' x h => RV.own h
  have hBL := msB_length S b pp s
  obtain ⟨M, hM⟩ : ∃ M, M = msB S b pp s := ⟨_, rfl⟩
  have hse : ∀ vd w', RB w' vd (msD S b pp s) → Calls Try.prog 40 #[(msH S).rv, vd, .slice none 0 0] w' fun e w'' => ∃ x, e = .returned x ∧ w''.ownsRow w'.heap.size 5 1 x 64 ((sealB (msH S) (msD S b pp s) []).map u8v) ∧ Below w'.heap.size w' w'' := fun vd w' hd => rseal_nil (msH S) (msH_ok hseq) vd (msD S b pp s) w' hd (by unfold msD; rw [List.length_append, List.length_replicate, hBL]; omega)
  have hDl : (msD S b pp s).length = s := by unfold msD; rw [List.length_append, List.length_replicate, hBL]; omega
  have hDe : msD S b pp s = M ++ List.replicate (s - M.length) 0 := by rw [hM]; rfl
  obtain ⟨D, hD⟩ : ∃ D, D = msD S b pp s := ⟨_, rfl⟩
  obtain ⟨O, hO⟩ : ∃ O, O = sealB (msH S) (msD S b pp s) [] := ⟨_, rfl⟩
  rw [← hO, ← hD] at HF hse
  rw [← hD] at hDl hDe
  have hMv : M.map u8v = (leBytes 4 S.seq).map u8v ++ [.int .u8 S.chips.length] ++ S.chips.map (fun x => Value.int .u8 x) ++ [.int .u8 S.spare, .int .u8 S.dead, .int .u8 S.done] ++ (leBytes 2 b).map u8v ++ (leBytes 2 pp).map u8v ++ (leBytes 2 s).map u8v := by
    have k1 : (leAll 1 [S.chips.length]).map u8v = [.int .u8 S.chips.length] := by rw [leAll1_map _ (by simp; omega)]; rfl
    have k2 : (leAll 1 (S.chips.map Int.toNat)).map u8v = S.chips.map (fun x => Value.int .u8 x) := by
      rw [leAll1_map _ (fun n hn => by obtain ⟨x, hx, rfl⟩ := List.mem_map.mp hn; have := hcb x hx; omega), List.map_map]
      apply List.map_congr_left
      intro x hx
      have := hcb x hx
      simp only [Function.comp_apply]
      congr 1; omega
    have k3 : (leAll 1 [S.spare.toNat, S.dead.toNat, S.done.toNat]).map u8v = [.int .u8 S.spare, .int .u8 S.dead, .int .u8 S.done] := by
      rw [leAll1_map _ (by simp; omega)]
      simp only [List.map_cons, List.map_nil]
      rw [Int.toNat_of_nonneg hsb.1, Int.toNat_of_nonneg hdb.1, Int.toNat_of_nonneg hnb.1]
    rw [hM]
    unfold msB
    simp only [List.map_append, k1, k2, k3, List.map_nil, List.nil_append]
    simp [leAll]
  rw [← hM] at hBl hBL
  clear hM hD hO
  obtain ⟨sq, xs, sp, dd, dn⟩ := S
  simp only at hcl hcb hsb hdb hnb hseq hcap hri hMv
  obtain ⟨w1, hw1⟩ : ∃ w1, w1 = (w.alloc (.cells #[.int .i64 sq, .slice a n cap, .int .i64 sp, .int .i64 dd, .int .i64 dn] 33)).alloc (.cells #[.int .i64 n, .int .i64 b, .int .i64 pp, .int .i64 s] 28) := ⟨_, rfl⟩
  have hal : Below w.heap.size w w1 := by rw [hw1]; exact ((Below.refl w.heap.size w).alloc (Nat.le_refl _) _).alloc (by simp) _
  have hQ : w1.heap[q]? = some (.cells #[.int .i64 sq, .slice a n cap, .int .i64 sp, .int .i64 dd, .int .i64 dn] 33 (0, 0)) := by rw [hw1]; exact heap_old _ (heap_is hq)
  have hG : w1.heap[q + 1]? = some (.cells #[.int .i64 n, .int .i64 b, .int .i64 pp, .int .i64 s] 28 (0, 0)) := by rw [hw1]; exact heap_is (by simp [hq])
  rw [hcl] at hcap
  have hri' : RI w1 (.slice a n cap) xs := by rw [hcl] at hri; exact hri.below hal
  have HX := Lib.hid (⟨hal, hQ, hG, hri', hcb, hcl, hseq⟩ : _ ∧ _ ∧ _ ∧ _ ∧ _ ∧ _ ∧ _)
  have HM := Lib.hid (⟨hMv, hBl, hBL, hse, hDl, hDe⟩ : _ ∧ _ ∧ _ ∧ _ ∧ _ ∧ _)
  have HW := Lib.hid hw1
  have p0 := cells_at hQ 0 _ rfl
  simp only [List.getElem_toArray, List.getElem_cons_succ, List.getElem_cons_zero] at p0
  have hlq := heap_lt hQ
  have ew : IntKind.u64.wrap (sq : Int) = (sq : Int) := by rw [IntKind.wrap_u64]; omega
  have hby := bytes_calls 4 sq w1 (by omega) (by omega)
  have HBY := Lib.hid hby
  simp only [hcl]
  clear hal hQ hG hri hri' hw1 hS hok hg hcb hby hMv hBl hBL hse hDl hDe
  go_enter Try.func11, Try.ntmps11
  go_upto_region 1 with (fail)
  rw [← hq, ← HW.out]
  clear hq HW
  go_wp2_with fail
  refine HBY.out.mono ?_
  rintro e w2 ⟨x2, rfl, hx2, hb2⟩
  obtain ⟨y2, z2, rfl⟩ := own_slice hx2
  have hQ2 := heap_keep hb2 HX.out.2.1
  have p1 := cells_at hQ2 1 _ rfl
  simp only [List.getElem_toArray, List.getElem_cons_succ, List.getElem_cons_zero] at p1
  have hlq2 := heap_lt hQ2
  have en : IntKind.u8.wrap (n : Int) = (n : Int) := IntWalk.u8_in _ ⟨by omega, by omega⟩
  have hsz2 := hb2.size
  have hx2' := hx2.alloc (.cells #[.int .u8 n] 5)
  have H2 := Lib.hid (⟨hx2, hb2⟩ : _ ∧ _)
  clear hb2 hQ2 p0 hlq HBY ew hx2
  go_wp2_with (at_builtin; refine wpList_append_own _ rfl _ _ 23 rfl w1.heap.size 5 i (.int .u8 0) 1 1 Try.underlying23 hi hz0 hz1 hz2 rfl (by decide) _ _ _ rfl hx2' ⟨w2.heap.size, 0, none⟩ 1 1 [.int .u8 n] rfl rfl ?c1 ?c2 ?c3 ?c4 ?c5 ?_)
  case c1 => exact cell_one_new _ _ _
  case c2 => exact one_cell rfl
  case c3 => unfold maxLen; omega
  case c4 => omega
  case c5 => simp; omega
  intro v' w3 hx3 hg3 _
  have hb3 := below_push H2.out.2 H2.out.1 _ hg3 hsz2 (Nat.le_refl _)
  obtain ⟨V, hV⟩ : ∃ V, V = (leBytes 4 sq).map u8v ++ [Value.int .u8 n] := ⟨_, rfl⟩
  rw [← hV] at hx3
  have HV := Lib.hid hV
  obtain ⟨y3, z3, rfl⟩ := own_slice hx3
  have H3 := Lib.hid (⟨hx3, hb3⟩ : _ ∧ _)
  clear hx3 hb3 hg3 hx2' H2 p1 hlq2 hsz2 hV en
  go_wp2_with fail
  go_loopw [6, 7] (fun x6 i wr => ∃ k : Nat, k ≤ n ∧ i = .int .i64 k ∧ wr.ownsRow w1.heap.size 5 1 x6 (5 + k) (V ++ (xs.take k).map fun x => Value.int .u8 x) ∧ Below w1.heap.size w1 wr) (fun _ i _ => n - (intOf i).toNat)
  case atStart => exact ⟨0, Nat.zero_le _, rfl, by simpa using H3.out.1, H3.out.2⟩
  case round =>
    obtain ⟨k, hk, rfl, hown, hbel⟩ := hrel
    obtain ⟨a6, k6, rfl⟩ := own_slice hown
    have hQr := heap_keep hbel HX.out.2.1
    have p1 := cells_at hQr 1 _ rfl
    simp only [List.getElem_toArray, List.getElem_cons_succ, List.getElem_cons_zero] at p1
    have hlqr := heap_lt hQr
    by_cases hlt : k < n
    · have hk' : (k : Int) < (n : Int) := by omega
      have hkx : k < xs.length := by rw [HX.out.2.2.2.2.2.1]; exact hlt
      obtain ⟨lb, lo, lc, hle, hc⟩ := (HX.out.2.2.2.1.below hbel).at hkx
      simp only [Value.slice.injEq] at hle
      obtain ⟨rfl, -, rfl⟩ := hle
      have hlc := cell_lt hc
      have htk : (xs.take (k + 1)).map (fun x => Value.int .u8 x) = (xs.take k).map (fun x => Value.int .u8 x) ++ [.int .u8 xs[k]] := by rw [List.take_succ_eq_append_getElem hkx, List.map_append]; rfl
      obtain ⟨b0, b1⟩ := HX.out.2.2.2.2.1 xs[k] (List.getElem_mem hkx)
      generalize xs[k] = x at hc htk b0 b1
      have e1 : IntKind.u8.wrap x = x := IntWalk.u8_in _ ⟨by omega, by omega⟩
      have HT := Lib.hid (⟨htk, hlt, hown, hbel⟩ : _ ∧ _ ∧ _ ∧ _)
      have hsz := hbel.size
      have hown' := hown.alloc (.cells #[.int .u8 x] 5)
      clear htk hlt hkx hbel hown hQr
      go_wp2_with (at_builtin; refine wpList_append_own _ rfl _ _ 23 rfl w1.heap.size 5 i (.int .u8 0) 1 1 Try.underlying23 hi hz0 hz1 hz2 rfl (by decide) _ _ _ rfl hown' ⟨wr.heap.size, 0, none⟩ 1 1 [.int .u8 x] rfl rfl ?c1 ?c2 ?c3 ?c4 ?c5 ?_)
      case c1 => exact cell_one_new _ _ _
      case c2 => exact one_cell rfl
      case c3 => unfold maxLen; omega
      case c4 => omega
      case c5 => simp; omega
      intro v' w4 hx4 hg4 _
      have hb4 := below_push HT.out.2.2.2 HT.out.2.2.1 _ hg4 hsz (Nat.le_refl _)
      have hown2 : w4.ownsRow w1.heap.size 5 1 v' (5 + (k + 1)) (V ++ (xs.take (k + 1)).map fun x => Value.int .u8 x) := by
        rw [HT.out.1, List.map_take]; exact hx4
      have HZ := Lib.hid (⟨hown2, hb4⟩ : _ ∧ _)
      clear hx4 hg4 hown' hb4 hown2 hc
      go_wp2_with fail
      go_roundw
      case rel => exact ⟨k + 1, HT.out.2.1, by go_num, HZ.out.1, HZ.out.2⟩
      case measure => have := HT.out.2.1; simp [intOf]; omega
    · have hkn : n = k := by omega
      subst hkn
      obtain ⟨V2, hV2⟩ : ∃ V2, V2 = V ++ xs.map fun x => Value.int .u8 x := ⟨_, rfl⟩
      rw [← HX.out.2.2.2.2.2.1, List.take_length, ← hV2, HX.out.2.2.2.2.2.1] at hown
      have HV2 := Lib.hid hV2
      have hsz := hbel.size
      have HZ := Lib.hid (⟨hown, hbel⟩ : _ ∧ _)
      have p2 := cells_at hQr 2 _ rfl
      have p3 := cells_at hQr 3 _ rfl
      have p4 := cells_at hQr 4 _ rfl
      simp only [List.getElem_toArray, List.getElem_cons_succ, List.getElem_cons_zero] at p2 p3 p4
      have e1 : IntKind.u8.wrap sp = sp := IntWalk.u8_in _ ⟨by omega, by omega⟩
      have e2 : IntKind.u8.wrap dd = dd := IntWalk.u8_in _ ⟨by omega, by omega⟩
      have e3 : IntKind.u8.wrap dn = dn := IntWalk.u8_in _ ⟨by omega, by omega⟩
      clear hown hbel hV2 hlt hk
      have hB := HZ.out.2.alloc hsz (.cells #[.int .u8 sp, .int .u8 dd, .int .u8 dn] 5)
      have hr : RV (wr.alloc (.cells #[.int .u8 sp, .int .u8 dd, .int .u8 dn] 5)) (.slice (some ⟨wr.heap.size, 0, none⟩) 3 3) [.int .u8 sp, .int .u8 dd, .int .u8 dn] := RV.cells (n := 3) (heap_is rfl) rfl (by decide) rfl
      have hxp := HZ.out.1.alloc (.cells #[.int .u8 sp, .int .u8 dd, .int .u8 dn] 5)
      replace hsz := hB.size
      have HA := Lib.hid hB
      clear hB hQr
      go_wp2_with (at_builtin; (refine wpList_append_RV rfl _ _ 23 rfl w1.heap.size 5 i (.int .u8 0) 1 Try.underlying23 hi hz0 hz1 hz2 rfl (.slice a6 (5 + n) k6) (5 + n) _ rfl hxp _ _ rfl hr (fun u hu => by simp at hu; rcases hu with rfl | rfl | rfl <;> rfl) ?c1 ?c2 ?c3 ?_))
      case c1 => simp only [maxLen, List.length_cons, List.length_nil]; omega
      case c2 => simp only [List.length_cons, List.length_nil]; omega
      case c3 => exact hsz
      intro v' w5 hx hg _
      obtain ⟨V3, hV3⟩ : ∃ V3, V3 = V2 ++ [.int .u8 sp, .int .u8 dd, .int .u8 dn] := ⟨_, rfl⟩
      rw [← hV3] at hx
      have HV3 := Lib.hid hV3
      replace hx : w5.ownsRow w1.heap.size 5 1 v' (8 + n) V3 := by rw [show 8 + n = 5 + n + 3 by omega]; exact hx
      have hb := below_pushed HA.out hxp hg hsz (Nat.le_refl _)
      obtain ⟨y5, z5, rfl⟩ := own_slice hx
      have HP := Lib.hid (⟨hx, hb⟩ : _ ∧ _)
      clear hx hb hg hxp hr hsz HA HZ p1 p2 p3 p4 hlqr e1 e2 e3 hV3
      -- b
      have hQk := heap_keep HP.out.2 HX.out.2.2.1
      have p := cells_at hQk 1 _ rfl
      simp only [List.getElem_toArray, List.getElem_cons_succ, List.getElem_cons_zero] at p
      have hlqk := heap_lt hQk
      have ew : IntKind.u64.wrap (b : Int) = (b : Int) := by rw [IntKind.wrap_u64]; omega
      have hck := bytes_calls 2 b w5 (by omega) (by omega)
      rw [show ((2 : Nat) : Int) = 2 from rfl] at hck
      have HC := Lib.hid hck
      clear hck hQk
      go_wp2_with fail
      refine HC.out.mono ?_
      rintro e wa6 ⟨x, rfl, hx, hb⟩
      have hr : RB wa6 x (leBytes 2 b) := RV.own hx
      obtain ⟨ya6, za6, rfl⟩ := own_slice hx
      have hxp := own_only HP.out.1 (Only.new hb fun _ => False) (fun _ _ => id)
      have hB := HP.out.2.trans (hb.mono HP.out.2.size)
      have hsz := hB.size
      have HA := Lib.hid hB
      clear hx hb hB HC p ew hlqk
      go_wp2_with (at_builtin; (refine wpList_append_RV rfl _ _ 23 rfl w1.heap.size 5 i (.int .u8 0) 1 Try.underlying23 hi hz0 hz1 hz2 rfl (.slice y5 (8 + n) z5) (8 + n) _ rfl hxp _ _ rfl hr (oneCell_u8 _) ?c1 ?c2 ?c3 ?_))
      case c1 => simp only [maxLen, List.length_map, leBytes_length]; omega
      case c2 => simp only [List.length_map, leBytes_length]; omega
      case c3 => exact hsz
      intro v' w6 hx hg _
      obtain ⟨V4, hV4⟩ : ∃ V4, V4 = V3 ++ (leBytes 2 b).map u8v := ⟨_, rfl⟩
      rw [← hV4] at hx
      have HV4 := Lib.hid hV4
      replace hx : w6.ownsRow w1.heap.size 5 1 v' (10 + n) V4 := by
        (try simp only [List.length_map, leBytes_length] at hx)
        rw [show 10 + n = 8 + n + 2 by omega]; exact hx
      have hb := below_pushed HA.out hxp hg hsz (Nat.le_refl _)
      obtain ⟨y6, z6, rfl⟩ := own_slice hx
      replace HP := Lib.hid (⟨hx, hb⟩ : _ ∧ _)
      clear hx hb hg hxp hr hsz HA hV4
      -- pp
      have hQk := heap_keep HP.out.2 HX.out.2.2.1
      have p := cells_at hQk 2 _ rfl
      simp only [List.getElem_toArray, List.getElem_cons_succ, List.getElem_cons_zero] at p
      have hlqk := heap_lt hQk
      have ew : IntKind.u64.wrap (pp : Int) = (pp : Int) := by rw [IntKind.wrap_u64]; omega
      have hck := bytes_calls 2 pp w6 (by omega) (by omega)
      rw [show ((2 : Nat) : Int) = 2 from rfl] at hck
      have HC := Lib.hid hck
      clear hck hQk
      go_wp2_with fail
      refine HC.out.mono ?_
      rintro e wa7 ⟨x, rfl, hx, hb⟩
      have hr : RB wa7 x (leBytes 2 pp) := RV.own hx
      obtain ⟨ya7, za7, rfl⟩ := own_slice hx
      have hxp := own_only HP.out.1 (Only.new hb fun _ => False) (fun _ _ => id)
      have hB := HP.out.2.trans (hb.mono HP.out.2.size)
      have hsz := hB.size
      have HA := Lib.hid hB
      clear hx hb hB HC p ew hlqk
      go_wp2_with (at_builtin; (refine wpList_append_RV rfl _ _ 23 rfl w1.heap.size 5 i (.int .u8 0) 1 Try.underlying23 hi hz0 hz1 hz2 rfl (.slice y6 (10 + n) z6) (10 + n) _ rfl hxp _ _ rfl hr (oneCell_u8 _) ?c1 ?c2 ?c3 ?_))
      case c1 => simp only [maxLen, List.length_map, leBytes_length]; omega
      case c2 => simp only [List.length_map, leBytes_length]; omega
      case c3 => exact hsz
      intro v' w7 hx hg _
      obtain ⟨V5, hV5⟩ : ∃ V5, V5 = V4 ++ (leBytes 2 pp).map u8v := ⟨_, rfl⟩
      rw [← hV5] at hx
      have HV5 := Lib.hid hV5
      replace hx : w7.ownsRow w1.heap.size 5 1 v' (12 + n) V5 := by
        (try simp only [List.length_map, leBytes_length] at hx)
        rw [show 12 + n = 10 + n + 2 by omega]; exact hx
      have hb := below_pushed HA.out hxp hg hsz (Nat.le_refl _)
      obtain ⟨y7, z7, rfl⟩ := own_slice hx
      replace HP := Lib.hid (⟨hx, hb⟩ : _ ∧ _)
      clear hx hb hg hxp hr hsz HA hV5
      -- s
      have hQk := heap_keep HP.out.2 HX.out.2.2.1
      have p := cells_at hQk 3 _ rfl
      simp only [List.getElem_toArray, List.getElem_cons_succ, List.getElem_cons_zero] at p
      have hlqk := heap_lt hQk
      have ew : IntKind.u64.wrap (s : Int) = (s : Int) := by rw [IntKind.wrap_u64]; omega
      have hck := bytes_calls 2 s w7 (by omega) (by omega)
      rw [show ((2 : Nat) : Int) = 2 from rfl] at hck
      have HC := Lib.hid hck
      clear hck hQk
      go_wp2_with fail
      refine HC.out.mono ?_
      rintro e wa8 ⟨x, rfl, hx, hb⟩
      have hr : RB wa8 x (leBytes 2 s) := RV.own hx
      obtain ⟨ya8, za8, rfl⟩ := own_slice hx
      have hxp := own_only HP.out.1 (Only.new hb fun _ => False) (fun _ _ => id)
      have hB := HP.out.2.trans (hb.mono HP.out.2.size)
      have hsz := hB.size
      have HA := Lib.hid hB
      clear hx hb hB HC p ew hlqk
      go_wp2_with (at_builtin; (refine wpList_append_RV rfl _ _ 23 rfl w1.heap.size 5 i (.int .u8 0) 1 Try.underlying23 hi hz0 hz1 hz2 rfl (.slice y7 (12 + n) z7) (12 + n) _ rfl hxp _ _ rfl hr (oneCell_u8 _) ?c1 ?c2 ?c3 ?_))
      case c1 => simp only [maxLen, List.length_map, leBytes_length]; omega
      case c2 => simp only [List.length_map, leBytes_length]; omega
      case c3 => exact hsz
      intro v' w8 hx hg _
      obtain ⟨V6, hV6⟩ : ∃ V6, V6 = V5 ++ (leBytes 2 s).map u8v := ⟨_, rfl⟩
      rw [← hV6] at hx
      have HV6 := Lib.hid hV6
      replace hx : w8.ownsRow w1.heap.size 5 1 v' (14 + n) V6 := by
        (try simp only [List.length_map, leBytes_length] at hx)
        rw [show 14 + n = 12 + n + 2 by omega]; exact hx
      have hb := below_pushed HA.out hxp hg hsz (Nat.le_refl _)
      obtain ⟨y8, z8, rfl⟩ := own_slice hx
      replace HP := Lib.hid (⟨hx, hb⟩ : _ ∧ _)
      clear hx hb hg hxp hr hsz HA hV6
      have hrM : RB w8 (.slice y8 (14 + n) z8) M := by
        have h := RV.own HP.out.1
        show RV _ _ _
        rw [HM.out.1]
        rw [HV6.out, HV5.out, HV4.out, HV3.out, HV2.out, HV.out] at h
        rw [HX.out.2.2.2.2.2.1]
        exact h
      have hQk := heap_keep HP.out.2 HX.out.2.2.1
      have p := cells_at hQk 3 _ rfl
      simp only [List.getElem_toArray, List.getElem_cons_succ, List.getElem_cons_zero] at p
      have hlqk := heap_lt hQk
      have hck := pad_calls _ M s w8 hrM (by rw [HM.out.2.2.1]; have := HX.out.2.2.2.2.2.1; omega) (by omega)
      rw [← HM.out.2.2.2.2.2, HM.out.2.2.2.2.1] at hck
      have HC := Lib.hid hck
      clear hck hrM
      go_wp2_with fail
      refine HC.out.mono ?_
      rintro e w9 ⟨x, rfl, hx, hb⟩
      have hrD : RB w9 x D := RV.own hx
      obtain ⟨y9, z9, rfl⟩ := own_slice hx
      have hB9 := HP.out.2.trans (hb.mono HP.out.2.size)
      have hQ9 := heap_keep hB9 HX.out.2.1
      have p0 := cells_at hQ9 0 _ rfl
      simp only [List.getElem_toArray, List.getElem_cons_succ, List.getElem_cons_zero] at p0
      have hlq9 := heap_lt hQ9
      have hsc := HM.out.2.2.2.1 _ w9 hrD
      have H9 := Lib.hid (⟨hsc, hrD, hB9⟩ : _ ∧ _ ∧ _)
      clear hsc hrD hB9 hQ9 hx hb HC p hlqk hQk
      go_wp2_with fail
      refine H9.out.1.mono ?_
      rintro e w10 ⟨x10, rfl, hx10, hb10⟩
      have HE := Lib.hid (HF.out _ _ w10 (H9.out.2.1.below hb10) (RV.own hx10) (HX.out.1.trans ((H9.out.2.2.trans (hb10.mono H9.out.2.2.size)).mono HX.out.1.size)))
      obtain ⟨y10, z10, rfl⟩ := own_slice hx10
      clear hx10 hb10 H9 p0 hlq9
      go_wp2_with fail
      exact HE.out
end Go.Proofs.Ytogejjbclimjjaa
