/- The document's tables: their bytes. -/
--only r2
import Derived.Test.YtogejjbclimjjaaTabRCheck
import Derived.Laws.OwnMore
namespace Go.Proofs.Ytogejjbclimjjaa
set_option linter.unusedVariables false
set_option linter.unusedSimpArgs false
open Go.RowKit

theorem u8v_nat (n : Nat) (h : n < 256) : u8v (UInt8.ofNat n) = .int .u8 (n : Int) := by
  show Value.int .u8 ((UInt8.ofNat n).toNat : Int) = _
  rw [UInt8.toNat_ofNat_of_lt' h]
theorem leAll1_cons (n : Nat) (ns : List Nat) : leAll 1 (n :: ns) = UInt8.ofNat (n % 256) :: leAll 1 ns := by simp [leAll, leBytes]
theorem leAll1_map (ns : List Nat) (h : ∀ n ∈ ns, n < 256) : (leAll 1 ns).map u8v = ns.map fun (n : Nat) => Value.int .u8 (n : Int) := by
  induction ns with
  | nil => rfl
  | cons n ns ih =>
    rw [leAll1_cons, List.map_cons, List.map_cons, ih fun m hm => h m (List.mem_cons_of_mem _ hm), Nat.mod_eq_of_lt (h n List.mem_cons_self), u8v_nat n (h n List.mem_cons_self)]

set_option maxRecDepth 100000 in
set_option maxHeartbeats 1000000 in
theorem rlist_calls (vx : Value) (xs : List Int) (w : World) (hx : RI w vx xs) (hb : ∀ x ∈ xs, 0 ≤ x ∧ x < 256) (hlen : xs.length < 256) :
    Calls Try.prog 63 #[vx] w fun e w' => ∃ x, e = .returned x ∧ w'.ownsRow w.heap.size 5 1 x (xs.length + 1) ((listB xs).map u8v) ∧ Below w.heap.size w w' := by
  obtain ⟨i, hi, hz0, hz1, hz2⟩ := info_parts infoU8
  obtain ⟨ax, cx, rfl, hx1, hx2⟩ := hx.form
  have e1 : IntKind.u8.wrap (xs.length : Int) = (xs.length : Int) := IntWalk.u8_in _ ⟨by omega, by omega⟩
  have hal := (Below.refl w.heap.size w).alloc (Nat.le_refl _) (.cells #[.int .u8 xs.length] 5)
  have hown := World.ownsRow_lit (base := w.heap.size) (e := 5) (size := 1) w #[.int .u8 xs.length] 1 (Nat.le_refl _) (by simp [maxLen]) rfl
  have HA := Lib.hid (⟨hx, hal, hown⟩ : _ ∧ _ ∧ _)
  clear hx hal hown
  go_enter Try.func63, Try.ntmps63
  go_wp2_with fail
  clear e1
  go_loopw [3, 4] (fun x3 i wr => ∃ k : Nat, k ≤ xs.length ∧ i = .int .i64 k ∧ wr.ownsRow w.heap.size 5 1 x3 (k + 1) (Value.int .u8 xs.length :: (xs.take k).map fun x => Value.int .u8 x) ∧ Below w.heap.size w wr) (fun _ i _ => xs.length - (intOf i).toNat)
  case atStart => exact ⟨0, Nat.zero_le _, rfl, HA.out.2.2, HA.out.2.1⟩
  case round =>
    obtain ⟨k, hk, rfl, hown, hbel⟩ := hrel
    obtain ⟨a3, k3, rfl⟩ := own_slice hown
    by_cases hlt : k < xs.length
    · have hk' : (k : Int) < (xs.length : Int) := by omega
      obtain ⟨lb, lo, lc, hle, hc⟩ := (HA.out.1.below hbel).at hlt
      simp only [Value.slice.injEq] at hle
      obtain ⟨rfl, -, rfl⟩ := hle
      have hlc := cell_lt hc
      have htk : (xs.take (k + 1)).map (fun x => Value.int .u8 x) = (xs.take k).map (fun x => Value.int .u8 x) ++ [.int .u8 xs[k]] := by rw [List.take_succ_eq_append_getElem hlt, List.map_append]; rfl
      obtain ⟨b0, b1⟩ := hb xs[k] (List.getElem_mem hlt)
      generalize xs[k] = x at hc htk b0 b1
      have e1 : IntKind.u8.wrap x = x := IntWalk.u8_in _ ⟨by omega, by omega⟩
      have HT := Lib.hid (⟨htk, hlt⟩ : _ ∧ _)
      have hsz := hbel.size
      clear htk hlt
      go_wp2_with (at_builtin; refine wpList_append_own _ rfl _ _ 23 rfl w.heap.size 5 i (.int .u8 0) 1 1 Try.underlying23 hi hz0 hz1 hz2 rfl (by decide) _ _ _ rfl (hown.alloc _) ⟨wr.heap.size, 0, none⟩ 1 1 [.int .u8 x] rfl rfl ?c1 ?c2 ?c3 ?c4 ?c5 ?_)
      case c1 => exact cell_one_new _ _ _
      case c2 => exact one_cell rfl
      case c3 => unfold maxLen; omega
      case c4 => omega
      case c5 => simp; omega
      intro v' w1 hown' hgrow _
      have hb1 := below_push hbel hown _ hgrow hsz (Nat.le_refl _)
      have hown2 : w1.ownsRow w.heap.size 5 1 v' (k + 1 + 1) (Value.int .u8 xs.length :: (xs.take (k + 1)).map fun x => Value.int .u8 x) := by
        rw [HT.out.1, List.map_take]; exact hown'
      have HZ := Lib.hid (⟨hown2, hb1⟩ : _ ∧ _)
      clear hown' hgrow hown hbel hb1 hown2 hc
      go_wp2_with fail
      go_roundw
      case rel => exact ⟨k + 1, HT.out.2, by go_num, HZ.out.1, HZ.out.2⟩
      case measure => have := HT.out.2; simp [intOf]; omega
    · obtain rfl : k = xs.length := by omega
      have hfin : (listB xs).map u8v = Value.int .u8 xs.length :: (xs.take xs.length).map fun x => Value.int .u8 x := by
        unfold listB
        rw [List.map_append, leAll1_map _ (by simpa using hlen), leAll1_map _ (fun n hn => by obtain ⟨x, hx, rfl⟩ := List.mem_map.mp hn; have := hb x hx; omega), List.take_length, List.map_map]
        simp only [List.map_cons, List.map_nil, List.cons_append, List.nil_append]
        congr 1
        apply List.map_congr_left
        intro x hx
        have := hb x hx
        simp only [Function.comp_apply]
        congr 1; omega
      rw [← hfin] at hown
      have HZ := Lib.hid (⟨hown, hbel⟩ : _ ∧ _)
      clear hown hbel hfin
      go_wp2_with fail
      go_ret
      exact ⟨_, rfl, HZ.out.1, HZ.out.2⟩

set_option maxRecDepth 100000 in
set_option maxHeartbeats 1000000 in
theorem rencode_calls (T : Tb) (v : Value) (n : Nat) (w : World) (hR : RTabAt w T.r v) (hok : T.Ok n) (hn : n ≤ 64) (hs : T.seq < 4294967296) :
    Calls Try.prog 28 #[v] w fun e w' => ∃ x, e = .returned x ∧ w'.ownsRow w.heap.size 5 1 x (encB T).length ((encB T).map u8v) ∧ Below w.heap.size w w' := by
  obtain ⟨i, hi, hz0, hz1, hz2⟩ := info_parts infoU8
  obtain ⟨v1, v2, v3, rfl, hp1, hs1, ht1⟩ := hR.ex
  simp only [Tb.r, Tb.tabs] at hp1 hs1 ht1
  obtain ⟨a1, c1, rfl, l1, m1⟩ := hp1.form
  obtain ⟨a2, c2, rfl, l2, m2⟩ := hs1.form
  obtain ⟨b3, o3, c3, e3, -, -, hc3⟩ := ht1.out (by simp)
  obtain rfl := e3
  have t0 : w.cell? ⟨b3, o3, none⟩ = some (.int .i64 T.t0) := hc3 0 (by simp)
  have t1 : w.cell? ⟨b3, o3 + 1, none⟩ = some (.int .i64 T.t1) := hc3 1 (by simp)
  obtain ⟨hb1, hb2, hb3, hb4⟩ := hok.byte (by omega)
  have hlen := hok.len
  obtain ⟨n0, hn0⟩ : ∃ n : Nat, T.t0 = n := ⟨T.t0.toNat, by omega⟩
  obtain ⟨n1, hn1⟩ : ∃ n : Nat, T.t1 = n := ⟨T.t1.toNat, by omega⟩
  rw [hn0] at t0
  rw [hn1] at t1
  have hfin : ∀ x w', w'.ownsRow w.heap.size 5 1 x (encB T).length ((encB T).map u8v) → Below w.heap.size w w' → (fun e w' => ∃ x, e = Ending.returned x ∧ w'.ownsRow w.heap.size 5 1 x (encB T).length ((encB T).map u8v) ∧ Below w.heap.size w w') (.returned x) w' := fun x w' h1 h2 => ⟨x, rfl, h1, h2⟩
  generalize (fun (e : Ending) w' => ∃ x, e = Ending.returned x ∧ w'.ownsRow w.heap.size 5 1 x (encB T).length ((encB T).map u8v) ∧ Below w.heap.size w w') = Post at hfin ⊢
  have HF := Lib.hid hfin
  obtain ⟨q, hq⟩ : ∃ q, q = w.heap.size := ⟨_, rfl⟩
  have hal := (Below.refl w.heap.size w).alloc (Nat.le_refl _) (.cells #[.int .i64 T.seq, .slice a1 T.place.length c1, .slice a2 T.spare.length c2, .slice (some ⟨b3, o3, none⟩) 2 c3] 60)
  have hQ : (w.alloc (.cells #[.int .i64 T.seq, .slice a1 T.place.length c1, .slice a2 T.spare.length c2, .slice (some ⟨b3, o3, none⟩) 2 c3] 60)).heap[q]? = some (.cells #[.int .i64 T.seq, .slice a1 T.place.length c1, .slice a2 T.spare.length c2, .slice (some ⟨b3, o3, none⟩) 2 c3] 60 (0, 0)) := heap_is hq
  generalize hw1 : w.alloc (.cells #[.int .i64 T.seq, .slice a1 T.place.length c1, .slice a2 T.spare.length c2, .slice (some ⟨b3, o3, none⟩) 2 c3] 60) = w1 at hal hQ
  have HW := Lib.hid hw1
  have HX := Lib.hid (⟨hal, hQ, hp1.below hal, hs1.below hal, below_cell hal (cell_lt t0) t0, below_cell hal (cell_lt t1) t1⟩ : _ ∧ _ ∧ _ ∧ _ ∧ _ ∧ _)
  have HB := Lib.hid (⟨hb1, hb2, hlen⟩ : _ ∧ _ ∧ _)
  have ew : IntKind.u64.wrap (T.seq : Int) = (T.seq : Int) := by rw [IntKind.wrap_u64]; omega
  have hby := bytes_calls 4 T.seq w1 (by omega) (by omega)
  have HBY := Lib.hid hby
  clear hw1 hp1 hs1 ht1 hR hfin hb1 hb2 hlen hc3 t0 t1 hby
  unfold RTb.cells Tb.r
  go_enter Try.func28, Try.ntmps28
  go_upto_region 1 with (fail)
  show Code.wp _ _ _ _ _
  rw [HW.out, ← hq]
  have p0 := cells_at hQ 0 _ rfl
  simp only [List.getElem_toArray, List.getElem_cons_succ, List.getElem_cons_zero] at p0
  have hlq := heap_lt hQ
  have HQW := Lib.hid hq
  clear HW hQ hq
  go_wp2_with fail
  refine HBY.out.mono ?_
  rintro e w2 ⟨x2, rfl, hx2, hb2⟩
  have hQ2 := heap_keep hb2 HX.out.2.1
  have p1 := cells_at hQ2 1 _ rfl
  simp only [List.getElem_toArray, List.getElem_cons_succ, List.getElem_cons_zero] at p1
  have hlq2 := heap_lt hQ2
  have hl2 := rlist_calls _ T.place w2 (HX.out.2.2.1.below hb2) HB.out.1 (by have := HB.out.2.2; omega)
  obtain ⟨y2, z2, rfl⟩ := own_slice hx2
  have HL2 := Lib.hid hl2
  have H2 := Lib.hid (⟨hx2, hb2, hal⟩ : _ ∧ _ ∧ _)
  clear hx2 hb2 hQ2 p0 hlq hl2 HBY ew hal
  go_wp2_with fail
  refine HL2.out.mono ?_
  rintro e w3 ⟨x3, rfl, hx3, hb3⟩
  obtain ⟨hx2, hb2, hal⟩ := H2.out
  have hx2' := own_only hx2 (Only.new hb3 fun _ => False) (fun _ _ => id)
  have hrv3 : RB w3 x3 (listB T.place) := by
    have := RV.own hx3
    exact this
  obtain ⟨y3, z3, rfl, -, -⟩ := hrv3.form
  have hlb : (listB T.place).length ≤ 70 := by rw [listB_length]; have := HB.out.2.2; omega
  have hsz3 := Nat.le_trans hb2.size hb3.size
  have H3 := Lib.hid (⟨hb2.trans (hb3.mono hb2.size), hal⟩ : _ ∧ _)
  clear hx3 hb3 hb2 hx2 hal H2 HL2 p1 hlq2
  go_wp2_with (at_builtin; (refine wpList_append_RV rfl _ _ 23 rfl w1.heap.size 5 i (.int .u8 0) 1 Try.underlying23 hi hz0 hz1 hz2 rfl (.slice y2 4 z2) 4 _ rfl hx2' _ _ rfl hrv3 (oneCell_u8 _) ?c1 ?c2 ?c3 ?_))
  case c1 => simp only [maxLen, List.length_map]; omega
  case c2 => simp only [List.length_map]; omega
  case c3 => exact hsz3
  intro v' w4 hx4 hg4 _
  (try simp only [List.length_map] at hx4)
  rw [← List.map_append] at hx4
  have hb4 := below_pushed H3.out.1 hx2' hg4 hsz3 (Nat.le_refl _)
  obtain ⟨y4, z4, rfl⟩ := own_slice hx4
  have hQ4 := heap_keep hb4 HX.out.2.1
  have p2 := cells_at hQ4 2 _ rfl
  simp only [List.getElem_toArray, List.getElem_cons_succ, List.getElem_cons_zero] at p2
  have hlq4 := heap_lt hQ4
  have hl4 := rlist_calls _ T.spare w4 (HX.out.2.2.2.1.below hb4) HB.out.2.1 (by have := HB.out.2.2; omega)
  have HL4 := Lib.hid hl4
  have H4 := Lib.hid (⟨hx4, hb4, H3.out.2⟩ : _ ∧ _ ∧ _)
  clear hx4 hb4 hQ4 hg4 hx2' hrv3 hsz3 hl4 H3
  generalize (listB T.place).length = ll1 at *
  go_wp2_with fail
  refine HL4.out.mono ?_
  rintro e w5 ⟨x5, rfl, hx5, hb5⟩
  obtain ⟨hx4, hb4, hal⟩ := H4.out
  have hx4' := own_only hx4 (Only.new hb5 fun _ => False) (fun _ _ => id)
  have hrv5 : RB w5 x5 (listB T.spare) := by
    have := RV.own hx5
    exact this
  obtain ⟨y5, z5, rfl, -, -⟩ := hrv5.form
  have hlb2 : (listB T.spare).length ≤ 70 := by rw [listB_length]; have := HB.out.2.2; omega
  have hsz5 := Nat.le_trans hb4.size hb5.size
  have H5 := Lib.hid (⟨hb4.trans (hb5.mono hb4.size), hal⟩ : _ ∧ _)
  clear hx5 hb5 hb4 hx4 hal H4 HL4 p2 hlq4
  go_wp2_with (at_builtin; (refine wpList_append_RV rfl _ _ 23 rfl w1.heap.size 5 i (.int .u8 0) 1 Try.underlying23 hi hz0 hz1 hz2 rfl (.slice y4 (4 + ll1) z4) (4 + ll1) _ rfl hx4' _ _ rfl hrv5 (oneCell_u8 _) ?c1 ?c2 ?c3 ?_))
  case c1 => simp only [maxLen, List.length_map]; omega
  case c2 => simp only [List.length_map]; omega
  case c3 => exact hsz5
  intro v' w6 hx6 hg6 _
  (try simp only [List.length_map] at hx6)
  rw [← List.map_append] at hx6
  have hb6 := below_pushed H5.out.1 hx4' hg6 hsz5 (Nat.le_refl _)
  obtain ⟨y6, z6, rfl⟩ := own_slice hx6
  have hQ6 := heap_keep hb6 HX.out.2.1
  have p3 := cells_at hQ6 3 _ rfl
  simp only [List.getElem_toArray, List.getElem_cons_succ, List.getElem_cons_zero] at p3
  have hlq6 := heap_lt hQ6
  have t0 := below_cell hb6 (cell_lt HX.out.2.2.2.2.1) HX.out.2.2.2.2.1
  have t1 := below_cell hb6 (cell_lt HX.out.2.2.2.2.2) HX.out.2.2.2.2.2
  have hlt := cell_lt t0
  have e0 : IntKind.u8.wrap (n0 : Int) = (n0 : Int) := IntWalk.u8_in _ ⟨by omega, by omega⟩
  have e1 : IntKind.u8.wrap (n1 : Int) = (n1 : Int) := IntWalk.u8_in _ ⟨by omega, by omega⟩
  have H6 := Lib.hid (⟨hb6, H5.out.2⟩ : _ ∧ _)
  have hsz6 := hb6.size
  clear hb6 hQ6 hg6 hx4' hrv5 hsz5 H5
  generalize (listB T.spare).length = ll2 at *
  go_upto_region 4 with (fail)
  (refine wp_region_mix [0, 1, 2, 3, 4, 5, 6, 7, 8, 9, 10, 11, 12, 13] [(true, true), (true, true), (true, false), (true, true), (true, false), (true, true), (true, true), (true, false), (true, true), (true, false), (true, true), (false, false), (false, false), (true, true)] [0, 0, 2, 6, 14, 30, 0, 64, 192, 448, 960, 2046, 4095, 8191] _ (by kernel_rfl) (by kernel_rfl) (rfl : _ = _) ?_; simp only [pickL, List.map_cons, List.map_nil, List.getD_cons_succ, List.getD_cons_zero])
  (repeat (first | (refine mix_pure (fun hne K hK => ?_); go_simp; refine hK _ ?_; clear hK K hne) | (refine mix_load ?_ (fun K hK => ?_); (focus (first | rfl | (go_simp; done))); go_simp; refine hK _ ?_; clear hK K) | (refine mix_skip ?_ (fun K hK => ?_); (focus (first | rfl | (go_simp; done))); go_simp; refine hK _ ?_; clear hK K)))
  (refine mix_one (by first | rfl | (go_simp; done)) (fun R hR hX => ?_))
  go_wp2_with fail
  ((try simp only [wpList]); refine hR _ _ rfl ⟨fun w' => w' = _, rfl, (fun h => by cases h), ?_⟩; clear hR hX R)
  (refine mix_one (by first | rfl | (go_simp; done)) (fun R hR hX => ?_))
  have hrv7 : RV (w6.alloc (.cells #[.int .u8 n0, .int .u8 n1] 5)).drew (.slice (some ⟨w6.heap.size, 0, none⟩) 2 2) [.int .u8 n0, .int .u8 n1] := (RV.cells (n := 2) (heap_is rfl) rfl (by decide) rfl : RV (w6.alloc (.cells #[.int .u8 n0, .int .u8 n1] 5)) _ _).below (Below.refl _ _).drew
  have hal7 := ((Below.refl w6.heap.size w6).alloc (Nat.le_refl _) (.cells #[.int .u8 n0, .int .u8 n1] 5)).drew
  have hb7 := H6.out.1.trans (hal7.mono H6.out.1.size)
  have hx7 := (hx6.alloc (.cells #[.int .u8 n0, .int .u8 n1] 5)).drew
  have hsz7 := hb7.size
  have H7 := Lib.hid (⟨hb7, hx7⟩ : _ ∧ _)
  clear hal7 hb7
  go_wp2_with (at_builtin; (refine wpList_append_RV rfl _ _ 23 rfl w1.heap.size 5 i (.int .u8 0) 1 Try.underlying23 hi hz0 hz1 hz2 rfl (.slice y6 (4 + ll1 + ll2) z6) (4 + ll1 + ll2) _ rfl hx7 _ _ rfl hrv7 (fun u hu => by simp at hu; rcases hu with rfl | rfl <;> rfl) ?c1 ?c2 ?c3 ?_))
  case c1 => (try simp only [List.length_cons, List.length_nil]); unfold maxLen; omega
  case c2 => (try simp only [List.length_cons, List.length_nil]); omega
  case c3 => first | exact hsz7 | (have := H6.out.1.size; simp; omega)
  intro v' w8 hx8 hg8 _
  have hb8 := below_pushed H7.out.1 H7.out.2 hg8 hsz7 (Nat.le_refl _)
  have hfin : (encB T).map u8v = (leBytes 4 T.seq).map u8v ++ ((listB T.place).map u8v ++ ((listB T.spare).map u8v ++ [.int .u8 n0, .int .u8 n1])) := by
    unfold encB
    rw [hn0, hn1, Int.toNat_natCast, Int.toNat_natCast, List.map_append, leAll1_map [n0, n1] (fun n hn => by simp at hn; omega)]
    simp [leAll]
  (try simp only [List.map_append, List.append_assoc] at hx8)
  rw [← hfin] at hx8
  have hn : 4 + ll1 + ll2 + 2 = (encB T).length := by
    have := hx8.1
    rw [List.length_map, Nat.mul_one] at this
    exact this.symm
  rw [hn] at hx8
  have HE := Lib.hid (HF.out v' w8 (own_mono hx8 H6.out.2.size) (H6.out.2.trans (hb8.mono H6.out.2.size)))
  clear hx8 hb8 hfin hn hg8 H7 H6 hx7
  go_wp2_with fail
  (try simp only [wpList]); refine hR _ _ rfl ⟨fun w' => w' = _, rfl, (fun h => by cases h), ?_⟩; clear hR hX R
  (repeat (first | (refine mix_pure (fun hne K hK => ?_); go_simp; refine hK _ ?_; clear hK K hne) | (refine mix_load ?_ (fun K hK => ?_); (focus (first | rfl | (go_simp; done))); go_simp; refine hK _ ?_; clear hK K) | (refine mix_skip ?_ (fun K hK => ?_); (focus (first | rfl | (go_simp; done))); go_simp; refine hK _ ?_; clear hK K)))
  refine mix_done ?_
  go_wp2_with fail
  exact HE.out
end Go.Proofs.Ytogejjbclimjjaa
