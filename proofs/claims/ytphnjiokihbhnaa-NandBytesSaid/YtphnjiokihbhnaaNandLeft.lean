/- nand: bytes 255, and the bytes that an event leaves. -/
--only r2
import Derived.Test.YtphnjiokihbhnaaNandBegin
namespace Go.Proofs.Ytphnjiokihbhnaa
set_option linter.unusedVariables false
set_option linter.unusedSimpArgs false
open Go.RowKit

/-- n bytes, of which the first k are filled in -/
def fillTo (f : Nat → UInt8) (n k : Nat) : List UInt8 := (List.range n).map fun i => if i < k then f i else 0
theorem fillTo_length (f : Nat → UInt8) (n k : Nat) : (fillTo f n k).length = n := by simp [fillTo]
theorem fillTo_zero (f : Nat → UInt8) (n : Nat) : fillTo f n 0 = List.replicate n 0 := by
  apply List.ext_getElem <;> simp [fillTo]
theorem fillTo_all (f : Nat → UInt8) (n : Nat) : fillTo f n n = (List.range n).map f := by
  apply List.ext_getElem
  · simp [fillTo]
  · intro i h1 h2
    simp [fillTo] at h1 ⊢
    intro h; omega
theorem fillTo_set (f : Nat → UInt8) (n k : Nat) (hk : k < n) : ((fillTo f n k).map u8v).toArray.setIfInBounds k (u8v (f k)) = ((fillTo f n (k + 1)).map u8v).toArray := by
  apply Array.ext
  · simp [fillTo]
  · intro i h1 h2
    simp only [List.setIfInBounds_toArray, List.getElem_toArray]
    simp only [fillTo, List.getElem_set, List.getElem_map, List.getElem_range]
    by_cases e : k = i
    · subst e; simp
    · rw [if_neg e]
      by_cases h : i < k
      · rw [if_pos h, if_pos (by omega)]
      · rw [if_neg h, if_neg (by omega)]
theorem fillTo_cell {w : World} {b n k i t : Nat} {f : Nat → UInt8} {fz : Nat × Nat} (h : w.heap[b]? = some (.cells ((fillTo f n k).map u8v).toArray t fz)) (hi : i < n) : ∃ c : UInt8, w.cell? ⟨b, i, none⟩ = some (u8v c) :=
  ⟨(fillTo f n k)[i]'(by rw [fillTo_length]; exact hi), cells_at h i _ (by simp [fillTo, hi])⟩
/-- s[:j:m] -/
theorem run_cut3 {P : Program} {t e : TypeId} {ti : TypeInfo} (ht : P.underlying t = some (.slice e)) (hi : P.info? e = some ti) (hs : ti.size = 1) (a : Option Addr) (n cap j m : Nat) (hj : j ≤ m) (hm : m ≤ cap) (w : World) :
    (Instr.sliceAt t (.slice a n cap) none (some (.int .i64 j)) (some (.int .i64 m))).run P w = .ok (cutV a m 0 j) w := by
  simp [Instr.sliceAt, Instr.slice, Instr.sliceBounds, Instr.sliceBound, run_underlying ht, sizeOf, typeInfo, hi, hs, asIntOf, cutV, hj, hm]
theorem put2 {B : Nat} {w w1 : World} (hb : Below B w w1) (b : Nat) (u0 u1 : Value) (hB : B ≤ b) : Below B w ((w1.setCell ⟨b, 0, none⟩ u0).setCell ⟨b, 1, none⟩ u1) :=
  (hb.setCell (by exact hB) u0).setCell (by exact hB) u1
def leftF (l : List UInt8) (i : Nat) : UInt8 := if l.length = 0 then 0 else l.getD (i % l.length) 0
theorem full_fill (n : Nat) : (List.range n).map (fun _ => (255 : UInt8)) = full n := by
  apply List.ext_getElem <;> simp [full]

set_option maxRecDepth 100000 in
set_option maxHeartbeats 1000000 in
theorem full_calls (n : Nat) (w : World) (hn : n ≤ 1000000) :
    Calls Try.prog 40 #[.int .i64 n] w fun e w' => e = .returned (.slice (some ⟨w.heap.size, 0, none⟩) n n) ∧ RB w' (.slice (some ⟨w.heap.size, 0, none⟩) n n) (full n) ∧ Below w.heap.size w w' := by
  have hmk := make_u8 n (by omega)
  go_enter Try.func40, Try.ntmps40
  go_wp2_with fail
  have hb1 : (w.alloc (.cells (List.replicate n (.int .u8 0)).toArray 5)).heap[w.heap.size]? = some (.cells ((fillTo (fun _ => 255) n 0).map u8v).toArray 5 (0, 0)) := by
    rw [fillTo_zero, rep_u8]; exact heap_is rfl
  have hbel := (Below.refl w.heap.size w).alloc (Nat.le_refl _) (.cells (List.replicate n (.int .u8 0)).toArray 5)
  clear hmk
  go_loopw [9] (fun i wr => ∃ k : Nat, k ≤ n ∧ i = .int .i64 k ∧ wr.heap[w.heap.size]? = some (.cells ((fillTo (fun _ => 255) n k).map u8v).toArray 5 (0, 0)) ∧ Below w.heap.size w wr) (fun i _ => n - (intOf i).toNat)
  case atStart => exact ⟨0, Nat.zero_le _, rfl, hb1, hbel⟩
  case round =>
    clear hb1 hbel
    obtain ⟨k, hk, rfl, hb1, hbel⟩ := hrel
    by_cases hlt : k < n
    · obtain ⟨c0, hc0⟩ := fillTo_cell hb1 hlt
      have hf := froz_at hb1 k
      have HB := Lib.hid hb1
      clear hb1
      go_wp2_with fail
      go_roundw
      case rel =>
        refine ⟨k + 1, by omega, by go_num, ?_, hbel.setCell (by simp) _⟩
        rw [← fillTo_set _ _ _ hlt]
        exact set_at HB.out _
      case measure => simp [intOf]; omega
    · obtain rfl : k = n := by omega
      have HB := Lib.hid hb1
      clear hb1
      go_wp2_with fail
      go_ret
      refine ⟨rfl, ?_, hbel⟩
      have := HB.out
      rw [fillTo_all, full_fill] at this
      exact RB.block this (by simp [full]) (Nat.le_refl _) (by unfold maxLen; omega)

set_option maxRecDepth 100000 in
set_option maxHeartbeats 1000000 in
theorem left_calls {w : World} {L : NdLay} {M : Nd} (h : NdAt true w L M) (x : Ev) (v : Value) (hv : RB w v x.left) (hx : x.left.length ≤ 1000) :
    Calls Try.prog 35 #[ptrV L.p, evV x v] w fun e w' => ∃ v1 v2, e = .returned (.agg #[v1, v2]) ∧ RB w' v1 ((leftOf M.siz x.left).take M.siz) ∧ RB w' v2 ((leftOf M.siz x.left).drop M.siz) ∧ Below w.heap.size w w' := by
  have hT := h.top
  have hsz := h.ok.siz
  simp only [topCells, if_true] at hT
  generalize L.p = p at hT ⊢
  obtain ⟨n, hn⟩ : ∃ n, n = M.siz + 64 := ⟨_, rfl⟩
  have hmk : ∀ w, (Instr.makeSlice 31 (.int .i64 ((M.siz : Int) + 64)) (.int .i64 ((M.siz : Int) + 64))).run Try.prog w = .ok (.slice (some ⟨w.heap.size, 0, none⟩) n n) (w.alloc (.cells (List.replicate n (Value.int .u8 0)).toArray 5)) := fun w => by
    have := make_u8 n (by omega) w
    rwa [show ((n : Nat) : Int) = (M.siz : Int) + 64 by omega] at this
  obtain ⟨va, vc, rfl, -, -⟩ := hv.form
  have t3 := cells_at hT 3 _ rfl
  simp only [List.getElem_toArray, List.getElem_cons_succ, List.getElem_cons_zero] at t3
  obtain ⟨xo, xk, xc, xl⟩ := x
  simp only [evV] at hv hx ⊢
  have hlt := heap_lt hT
  clear h
  generalize M.siz = siz at hn hsz t3 hmk hT ⊢
  have HN := Lib.hid hn
  clear hn
  go_enter Try.func35, Try.ntmps35
  go_wp2_with fail
  have hXB : (((w.alloc (.cells #[.int .i64 xo, .int .i64 xk, .int .i64 xc, .slice va xl.length vc] 92)).alloc (.cells #[.slice none 0 0, .slice none 0 0] 96)).alloc (.cells (List.replicate n (.int .u8 0)).toArray 5)).heap[w.heap.size]? = some (.cells #[.int .i64 xo, .int .i64 xk, .int .i64 xc, .slice va xl.length vc] 92 (0, 0)) :=
    heap_old _ (heap_old _ (heap_is rfl))
  have hPB : (((w.alloc (.cells #[.int .i64 xo, .int .i64 xk, .int .i64 xc, .slice va xl.length vc] 92)).alloc (.cells #[.slice none 0 0, .slice none 0 0] 96)).alloc (.cells (List.replicate n (.int .u8 0)).toArray 5)).heap[w.heap.size + 1]? = some (.cells #[.slice none 0 0, .slice none 0 0] 96 (0, 0)) :=
    heap_old _ (heap_is (by simp))
  have hAB : (((w.alloc (.cells #[.int .i64 xo, .int .i64 xk, .int .i64 xc, .slice va xl.length vc] 92)).alloc (.cells #[.slice none 0 0, .slice none 0 0] 96)).alloc (.cells (List.replicate n (.int .u8 0)).toArray 5)).heap[w.heap.size + 2]? = some (.cells ((fillTo (leftF xl) n 0).map u8v).toArray 5 (0, 0)) := by
    rw [fillTo_zero, rep_u8]; exact heap_is (by simp)
  have hbel := (((Below.refl w.heap.size w).alloc (Nat.le_refl _) (.cells #[.int .i64 xo, .int .i64 xk, .int .i64 xc, .slice va xl.length vc] 92)).alloc (by simp) (.cells #[.slice none 0 0, .slice none 0 0] 96)).alloc (by simp; omega) (.cells (List.replicate n (.int .u8 0)).toArray 5)
  go_wp2_with fail
  obtain ⟨q, hq⟩ : ∃ q, q = w.heap.size := ⟨_, rfl⟩
  obtain ⟨q1, hq1⟩ : ∃ q, q = w.heap.size + 1 := ⟨_, rfl⟩
  obtain ⟨q2, hq2⟩ : ∃ q, q = w.heap.size + 1 + 1 := ⟨_, rfl⟩
  rw [show w.heap.size + 2 = w.heap.size + 1 + 1 from rfl, ← hq2] at hAB
  rw [← hq1] at hPB
  rw [← hq] at hXB
  rw [← hq2, ← hq1, ← hq]
  have hqq : q < q1 ∧ q1 < q2 ∧ w.heap.size ≤ q := by omega
  clear hq hq1 hq2 hmk
  go_loopw [16] (fun i wr => ∃ k : Nat, k ≤ n ∧ i = .int .i64 k ∧ wr.heap[q]? = some (.cells #[.int .i64 xo, .int .i64 xk, .int .i64 xc, .slice va xl.length vc] 92 (0, 0)) ∧ wr.heap[q1]? = some (.cells #[.slice none 0 0, .slice none 0 0] 96 (0, 0)) ∧ wr.heap[q2]? = some (.cells ((fillTo (leftF xl) n k).map u8v).toArray 5 (0, 0)) ∧ Below w.heap.size w wr) (fun i _ => n - (intOf i).toNat)
  case atStart => exact ⟨0, Nat.zero_le _, rfl, hXB, hPB, hAB, hbel⟩
  case round =>
    clear hXB hPB hAB hbel
    obtain ⟨k, hk, rfl, hXB, hPB, hAB, hbel⟩ := hrel
    obtain ⟨hq1, hq2, hq3⟩ := hqq
    have hT' := heap_keep hbel hT
    have hv' := hv.below hbel
    have hlx := heap_lt hXB
    have hx3 := cells_at hXB 3 _ rfl
    simp only [List.getElem_toArray, List.getElem_cons_succ, List.getElem_cons_zero] at hx3
    have HLN := Lib.hid (show n ≤ 2000 by have := HN.out; omega)
    by_cases hlt : k < n
    · have hk2 : k ≤ 2000 := by have := HLN.out; omega
      obtain ⟨c0, hc0⟩ := fillTo_cell hAB hlt
      have hf := froz_at hAB k
      have hlq2 := heap_lt hAB
      have hstep : ∀ u : UInt8, u = leftF xl k → (wr.setCell ⟨q2, k, none⟩ (u8v u)).heap[q]? = some (.cells #[.int .i64 xo, .int .i64 xk, .int .i64 xc, .slice va xl.length vc] 92 (0, 0)) ∧ (wr.setCell ⟨q2, k, none⟩ (u8v u)).heap[q1]? = some (.cells #[.slice none 0 0, .slice none 0 0] 96 (0, 0)) ∧ (wr.setCell ⟨q2, k, none⟩ (u8v u)).heap[q2]? = some (.cells ((fillTo (leftF xl) n (k + 1)).map u8v).toArray 5 (0, 0)) ∧ Below w.heap.size w (wr.setCell ⟨q2, k, none⟩ (u8v u)) := fun u hu => by
        have := set_at (o := k) hAB (u8v u)
        rw [hu, fillTo_set _ _ _ hlt, ← hu] at this
        exact ⟨set_other (a := ⟨q2, k, none⟩) _ hXB (by show ¬ q = q2; omega), set_other (a := ⟨q2, k, none⟩) _ hPB (by show ¬ q1 = q2; omega), this, hbel.setCell (by show w.heap.size ≤ q2; omega) _⟩
      have HS := Lib.hid hstep
      have HB := Lib.hid hAB
      clear hstep hAB
      by_cases hz : xl.length = 0
      · have hkeep : (fillTo (leftF xl) n (k + 1)) = fillTo (leftF xl) n k := by
          unfold fillTo
          congr 1
          funext i
          unfold leftF
          rw [if_pos hz]
          simp
        have HK := Lib.hid hkeep
        rw [hz] at hx3
        clear hkeep
        go_wp2_with fail
        go_roundw
        case rel => exact ⟨k + 1, by omega, by go_num, hXB, hPB, by rw [HK.out]; exact HB.out, hbel⟩
        case measure => simp [intOf]; omega
      · have hpos : 0 < xl.length := by omega
        obtain ⟨eb, eo, ec, he, -, -, hcell⟩ := hv'.out hpos
        have hmod : k % xl.length < xl.length := Nat.mod_lt _ hpos
        have hc := hcell _ hmod
        have hbe := cell_lt hc
        simp only [Value.slice.injEq] at he
        obtain ⟨rfl, -, rfl⟩ := he
        have hgd : xl[k % xl.length] = leftF xl k := by unfold leftF; rw [if_neg hz]; simp [List.getD, hmod]
        have HG := Lib.hid hgd
        have hmi : ((k : Int).tmod (xl.length : Int)) = ((k % xl.length : Nat) : Int) := by rw [Int.tmod_eq_emod_of_nonneg (by omega)]; omega
        generalize k % xl.length = j at hmod hc hgd HG hmi
        have hji : (j : Int) < xl.length := by omega
        have hkn : (k : Int) < n := by omega
        have hxn : ¬ xl = [] := fun e => by rw [e] at hpos; simp at hpos
        clear hcell hgd hz
        go_wp2_with fail
        (refine wp_region_mix [0, 1, 2, 3, 4, 5, 6, 7, 8, 9, 10, 11, 12] [(true, true), (true, true), (true, true), (true, false), (true, true), (true, true), (true, false), (true, true), (true, true), (true, true), (true, false), (true, true), (false, false)] [0, 0, 0, 4, 0, 0, 32, 96, 240, 508, 1020, 2047, 4095] _ (by kernel_rfl) (by kernel_rfl) (rfl : _ = _) ?_; simp only [pickL, List.map_cons, List.map_nil, List.getD_cons_succ, List.getD_cons_zero])
        (repeat (first | (refine mix_pure (fun hne K hK => ?_); go_simp; refine hK _ ?_; clear hK K hne) | (refine mix_load ?_ (fun K hK => ?_); (focus (first | rfl | (go_simp; done))); go_simp; refine hK _ ?_; clear hK K) | (refine mix_skip ?_ (fun K hK => ?_); (focus (first | rfl | (go_simp; done))); go_simp; refine hK _ ?_; clear hK K)))
        (refine mix_one (by first | rfl | (go_simp; done)) (fun R hR hX => ?_))
        go_wp2_with fail
        ((try simp only [wpList]); refine hR _ _ rfl ⟨fun w' => w' = _, rfl, (fun h => by cases h), ?_⟩; clear hR hX R)
        refine mix_done ?_
        go_wp2_with fail
        obtain ⟨s1, s2, s3, s4⟩ := HS.out _ HG.out
        go_roundw
        case rel => exact ⟨k + 1, by omega, by go_num, s1, s2, s3, s4.drew⟩
        case measure => simp [intOf]; omega
    · obtain rfl : k = n := by omega
      obtain ⟨iu, hiu, hz0, hz1, hz2⟩ := info_parts infoU8
      have hNN := HN.out
      have hr1 : ∀ w, (Instr.sliceAt 31 (.slice (some ⟨q2, 0, none⟩) k k) none (some (.int .i64 siz)) (some (.int .i64 siz))).run Try.prog w = .ok (cutV (some ⟨q2, 0, none⟩) siz 0 siz) w := fun w => run_cut3 Try.underlying31 hiu hz1 _ k k siz siz (by omega) (by omega) w
      have hr2 : ∀ w, (Instr.sliceAt 31 (.slice (some ⟨q2, 0, none⟩) k k) (some (.int .i64 siz)) none none).run Try.prog w = .ok (cutV (some ⟨q2, 0, none⟩) k siz k) w := fun w => run_cut_from Try.underlying31 hiu hz1 _ k k siz (by omega) w
      have hall : RB wr (.slice (some ⟨q2, 0, none⟩) k k) (leftOf siz xl) := by
        have : leftOf siz xl = fillTo (leftF xl) k k := by rw [fillTo_all, HN.out]; rfl
        rw [this]
        exact RB.block hAB (by rw [fillTo_length]) (Nat.le_refl _) (by unfold maxLen; omega)
      have hl := leftOf_length siz xl
      have hp1 : RB wr (cutV (some ⟨q2, 0, none⟩) siz 0 siz) ((leftOf siz xl).take siz) := by
        have h0 : RV wr (.slice (some ⟨q2, 0, none⟩) siz siz) (((leftOf siz xl).take siz).map u8v) := by
          obtain ⟨a', cap', e, h1, h2, h0, h3⟩ := hall
          simp only [Value.slice.injEq] at e
          obtain ⟨rfl, -, rfl⟩ := e
          obtain ⟨b, o, e2, hc⟩ := h3.resolve_left (fun h => by have : (leftOf siz xl).length = 0 := by simpa using h
                                                                omega)
          simp only [Option.some.injEq, Addr.mk.injEq] at e2
          obtain ⟨rfl, rfl, -⟩ := e2
          refine RV.mk (by simp; omega) (Nat.le_refl _) (by unfold maxLen; omega) fun i hi => ?_
          have := hc i (by simp at hi ⊢; omega)
          simpa [List.getElem_take] using this
        have := RV.cut h0 (i := 0) (j := siz) (by omega) (by simp; omega)
        unfold RB
        rw [List.drop_zero, Nat.sub_zero, List.take_of_length_le (by simp; omega)] at this
        exact this
      have hp2 : RB wr (cutV (some ⟨q2, 0, none⟩) k siz k) ((leftOf siz xl).drop siz) := by
        have := RV.cut hall (i := siz) (j := k) (by omega) (by simp; omega)
        unfold RB
        rw [List.take_of_length_le (by simp; omega), ← List.map_drop] at this
        exact this
      obtain ⟨y1, hy1⟩ : ∃ y, y = cutV (some ⟨q2, 0, none⟩) siz 0 siz := ⟨_, rfl⟩
      obtain ⟨y2, hy2⟩ : ∃ y, y = cutV (some ⟨q2, 0, none⟩) k siz k := ⟨_, rfl⟩
      rw [← hy1] at hp1
      rw [← hy2] at hp2
      simp only [← hy1] at hr1
      simp only [← hy2] at hr2
      have hT3 := cells_at hT' 3 _ rfl
      simp only [List.getElem_toArray, List.getElem_cons_succ, List.getElem_cons_zero] at hT3
      have g0 := cells_at hPB 0 _ rfl
      have g1 := cells_at hPB 1 _ rfl
      have f0 := froz_at hPB 0
      have f1 := froz_at hPB 1
      have hs1 : ∃ a n c, y1 = .slice a n c := ⟨_, _, _, hy1⟩
      have hs2 : ∃ a n c, y2 = .slice a n c := ⟨_, _, _, hy2⟩
      obtain ⟨a1, n1, c1, rfl⟩ := hs1
      obtain ⟨a2, n2, c2, rfl⟩ := hs2
      have hset : (((wr.setCell ⟨q1, 0, none⟩ (.slice a1 n1 c1)).setCell ⟨q1, 1, none⟩ (.slice a2 n2 c2))).heap[q1]? = some (.cells #[.slice a1 n1 c1, .slice a2 n2 c2] 96 (0, 0)) := by
        have h0 := set_at (o := 0) hPB (.slice a1 n1 c1)
        have h1 := set_at (o := 1) h0 (.slice a2 n2 c2)
        rw [h1]; rfl
      have hnb : NoByte wr q1 := noByte_of hPB (nb2 (nb_slice _ _ _) (nb_slice _ _ _))
      have hO := ((Only.of_set wr ⟨q1, 0, none⟩ (.slice a1 n1 c1)).set ⟨q1, 1, none⟩ (.slice a2 n2 c2) fun _ => rfl).drew
      have hB := (put2 hbel q1 (.slice a1 n1 c1) (.slice a2 n2 c2) (by omega)).drew
      have HX := Lib.hid (⟨hset, hp1.only hO (fun b _ e => by rw [e]; exact hnb), hp2.only hO (fun b _ e => by rw [e]; exact hnb), hB⟩ : _ ∧ _ ∧ _ ∧ _)
      clear hset hp1 hp2 hnb hO hB hy1 hy2 hall hl hNN hAB hPB hXB hT' hx3
      go_wp2_with fail
      (refine wp_region_mix [0, 1, 2, 3, 4, 5, 6, 7, 8, 9, 10, 11, 12, 13, 14, 15, 16, 17, 18, 19, 20] [(true, true), (true, true), (true, true), (true, true), (true, true), (true, false), (true, true), (true, true), (true, true), (true, true), (true, false), (true, true), (true, true), (true, true), (true, true), (true, true), (true, true), (true, false), (true, true), (true, true), (false, false)] [0, 0, 2, 6, 14, 30, 0, 64, 192, 448, 960, 2047, 0, 0, 8192, 24576, 57344, 122880, 258048, 524287, 1048575] _ (by kernel_rfl) (by kernel_rfl) (rfl : _ = _) ?_; simp only [pickL, List.map_cons, List.map_nil, List.getD_cons_succ, List.getD_cons_zero])
      (repeat (first | (refine mix_pure (fun hne K hK => ?_); go_simp; refine hK _ ?_; clear hK K hne) | (refine mix_load ?_ (fun K hK => ?_); (focus (first | rfl | (go_simp; done))); go_simp; refine hK _ ?_; clear hK K) | (refine mix_skip ?_ (fun K hK => ?_); (focus (first | rfl | (go_simp; done))); go_simp; refine hK _ ?_; clear hK K)))
      (refine mix_one (by first | rfl | (go_simp; done)) (fun R hR hX => ?_))
      go_wp2_with fail
      ((try simp only [wpList]); refine hR _ _ rfl ⟨fun w' => w' = _, rfl, (fun h => by cases h), ?_⟩; clear hR hX R)
      refine mix_done ?_
      go_wp2_with fail
      obtain ⟨s1, s2, s3, s4⟩ := HX.out
      refine bodyPost_ret (res_c rfl rfl (heap_drew s1) Try.underlying96 rfl (by kernel_rfl)) rfl ⟨_, _, rfl, s2, s3, s4⟩
end Go.Proofs.Ytphnjiokihbhnaa
