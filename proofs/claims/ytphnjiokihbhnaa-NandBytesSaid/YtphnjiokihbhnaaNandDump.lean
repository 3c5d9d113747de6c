/- nand: chips as bytes. -/
--only r2
import Derived.Test.YtphnjiokihbhnaaBlockDump
import Derived.Test.YtphnjiokihbhnaaSum
namespace Go.Proofs.Ytphnjiokihbhnaa
set_option linter.unusedVariables false
set_option linter.unusedSimpArgs false
open Go.RowKit

set_option maxRecDepth 100000 in
set_option maxHeartbeats 4000000 in
theorem ndump_calls {w : World} {L : NdLay} {M : Nd} (h : NdAt true w L M) :
    Calls Try.prog 24 #[ptrV L.p] w fun e w' => ∃ x, e = .returned x ∧ w'.ownsRow w.heap.size 5 1 x (dumpB M).length ((dumpB M).map u8v) ∧ Below w.heap.size w w' := by
  have hT := h.top
  simp only [topCells, if_true] at hT
  have hlL := heap_lt hT
  obtain ⟨hm1, hm2⟩ := h.ok.mem
  obtain ⟨hb1, hb2⟩ := h.ok.blk
  obtain ⟨hp1, hp2⟩ := h.ok.pgs
  obtain ⟨hs1, hs2⟩ := h.ok.siz
  obtain ⟨p, hp⟩ : ∃ p, p = w.heap.size := ⟨_, rfl⟩
  have hal := (Below.refl w.heap.size w).alloc (Nat.le_refl _) (.cells #[.slice none 0 0] 106)
  have hP : (w.alloc (.cells #[.slice none 0 0] 106)).heap[p]? = some (.cells #[.slice none 0 0] 106 (0, 0)) := heap_is hp
  have hsz1 : (w.alloc (.cells #[.slice none 0 0] 106)).heap.size = p + 1 := by rw [hp]; simp
  generalize hw1 : w.alloc (.cells #[.slice none 0 0] 106) = w1 at hal hP hsz1
  have HW1 := Lib.hid hw1
  clear hw1
  have hT1 := heap_keep hal hT
  obtain ⟨K, hKd⟩ : ∃ K, K = [(L.p, Obj.cells #[.int .i64 M.mem, .int .i64 M.blk, .int .i64 M.pgs, .int .i64 M.siz, .slice (some ⟨L.cs, 0, none⟩) (M.mem + 1) L.cc, .slice (some ⟨L.dd, 0, none⟩) (M.mem + 1) L.dc, .slice L.ea M.evs.length L.ec, .int .i64 M.ops, .bool M.off] 85 (0, 0))] := ⟨_, rfl⟩
  have hAway : Away K p (.slice none 0 0) := fun x hx => by
    rw [hKd] at hx
    obtain rfl : x = _ := by simpa using hx
    exact ⟨by show L.p ≠ p; omega, by simp [Value.ownBlock]⟩
  have hHeld : Held K w1 := fun x hx => by
    rw [hKd] at hx
    obtain rfl : x = _ := by simpa using hx
    exact hT1
  have g0 : ∀ w', Held K w' → w'.cell? ⟨L.p, 0, none⟩ = some (.int .i64 M.mem) := fun w' h => h.cell (by rw [hKd]; exact List.mem_cons_self) 0 _ rfl
  have g1 : ∀ w', Held K w' → w'.cell? ⟨L.p, 1, none⟩ = some (.int .i64 M.blk) := fun w' h => h.cell (by rw [hKd]; exact List.mem_cons_self) 1 _ rfl
  have g2 : ∀ w', Held K w' → w'.cell? ⟨L.p, 2, none⟩ = some (.int .i64 M.pgs) := fun w' h => h.cell (by rw [hKd]; exact List.mem_cons_self) 2 _ rfl
  have g3 : ∀ w', Held K w' → w'.cell? ⟨L.p, 3, none⟩ = some (.int .i64 M.siz) := fun w' h => h.cell (by rw [hKd]; exact List.mem_cons_self) 3 _ rfl
  obtain ⟨base, hbase⟩ : ∃ b, b = p + 1 := ⟨_, rfl⟩
  have hW : Wr w1 p base (.slice none 0 0) [] := Wr.empty hP (by omega) (by omega)
  have hA : WB K p base (.slice none 0 0) [] w1 (fun b => b = p ∨ (Value.slice none 0 0).ownBlock = some b) w1.drew := ⟨hHeld.below (Below.refl _ _).drew, _, hW.below (Below.refl _ _).drew, rfl, (Grow.refl _ _ _).drew, hAway⟩
  have hgood : Good (Held K) (WB K p base (.slice none 0 0) [] w1) := WB.good
  have HP := Lib.hid hp
  have HB := Lib.hid (⟨h, hal⟩ : _ ∧ _)
  clear hHeld hAway hKd hT1 hT hP h hal hW
  go_enter Try.func24, Try.ntmps24
  go_wp2_with fail
  rw [HW1.out, ← hp]
  clear HW1 hp hbase hsz1
  (refine wp_region_born [.soft 0, .soft 3, .soft 4, .soft 5, .soft 6, .soft 7, .soft 8, .soft 9, .soft 10, .soft 11, .soft 12, .soft 13, .soft 14, .soft 15, .soft 16, .soft 17, .soft 18, .soft 19, .soft 20, .soft 21, .soft 22, .soft 23, .soft 24, .soft 25, .soft 26, .ann 1, .ann 27, .take 1, .hard 2, .take 27, .hard 28] [(true, true), (false, false), (false, false), (true, true), (true, true), (true, true), (true, true), (true, false), (true, true), (true, true), (true, true), (true, true), (true, true), (true, false), (true, true), (true, true), (true, true), (true, true), (true, true), (true, false), (true, true), (true, true), (true, true), (true, true), (true, true), (true, false), (true, true), (false, false), (false, false)] [0, 0, 3, 0, 8, 24, 56, 120, 248, 0, 512, 1536, 3584, 7680, 15872, 0, 32768, 98304, 229376, 491520, 1015808, 0, 2097152, 6291456, 14680064, 31457280, 65011712, 134217720, 268435455] (Held K) (WB K p base (.slice none 0 0) [] w1) (fun b => b = p ∨ (Value.slice none 0 0).ownBlock = some b) (by kernel_rfl) (by kernel_rfl) ?_ ?_ ?_)
  · exact hgood
  · exact hA
  clear hA hgood
  iterate 25 (first | (refine bx_pure rfl (fun KK hKK => ?_); go_simp; refine hKK _ ?_; clear hKK KK) | (refine bx_load rfl rfl ?_ (fun KK hKK => ?_); (focus (first | rfl | (go_simp; done))); apply Exists.intro; apply And.intro; (focus (intro w' hC; go_simp; exact rfl)); go_simp; refine hKK _ ?_; clear hKK KK) | (refine bx_skip rfl ?_ (fun KK hKK => ?_); (focus (first | rfl | (go_simp; done))); go_simp; refine hKK _ ?_; clear hKK KK))
  (apply bx_ann rfl; (focus (intro w n hL hn; go_simp; (first | exact ⟨rfl, rfl⟩ | exact rfl))))
  (apply bx_ann rfl; (focus (intro w n hL hn; go_simp; (first | exact ⟨rfl, rfl⟩ | exact rfl))))
  (refine bx_take rfl rfl (fun b1 KK hKK => ?_); go_simp; refine hKK _ ?_; clear hKK KK)
  refine bx_one rfl (by first | rfl | (go_simp; done)) (fun G wc hA R hR hX => ?_)
  obtain ⟨⟨hH, vv, hW1, rfl, hg, haw⟩, hs, hnG⟩ := hA
  go_wp2_with fail
  refine (wU32_calls p base vv _ [] [1312964935] wc hW1 (RV.cells hs rfl (by simp) rfl) (WA.apart hnG) (fun n hn => ?_) (by simp) (by simp)).mono ?_
  · obtain rfl := List.mem_singleton.mp hn; omega
  rintro e wn ⟨rfl, vn, hWn, hgn⟩
  go_wp2_with fail
  refine hR _ _ rfl ⟨WB K p base (.slice none 0 0) ([] ++ leAll 4 [1312964935]) w1, _, WB.good, WB.next hH hW1 hg haw hWn hgn, hgn.only, WA.row hgn, ?_⟩
  clear hR hX R hH hW1 hg haw hs hnG hWn hgn
  (refine bx_take rfl rfl (fun b2 KK hKK => ?_); go_simp; refine hKK _ ?_; clear hKK KK)
  refine bx_one rfl (by first | rfl | (go_simp; done)) (fun G wc hA R hR hX => ?_)
  obtain ⟨⟨hH, vv, hW1, rfl, hg, haw⟩, hs, hnG⟩ := hA
  rw [IntWalk.u16_in M.mem ⟨by omega, by omega⟩, IntWalk.u16_in M.blk ⟨by omega, by omega⟩, IntWalk.u16_in M.pgs ⟨by omega, by omega⟩, IntWalk.u16_in M.siz ⟨by omega, by omega⟩] at hs
  go_wp2_with fail
  refine (wU16_calls p base vv _ ([] ++ leAll 4 [1312964935]) [M.mem, M.blk, M.pgs, M.siz] wc hW1 (RV.cells hs rfl (by simp) rfl) (WA.apart hnG) (fun n hn => ?_) (by simp [leAll_length]) (by simp)).mono ?_
  · simp only [List.mem_cons, List.not_mem_nil, or_false] at hn
    rcases hn with rfl | rfl | rfl | rfl <;> omega
  rintro e wn ⟨rfl, vn, hWn, hgn⟩
  go_wp2_with fail
  refine hR _ _ rfl ⟨WB K p base (.slice none 0 0) (headB M) w1, _, WB.good, WB.next hH hW1 hg haw hWn hgn, hgn.only, WA.row hgn, ?_⟩
  clear hR hX R hH hW1 hg haw hs hnG hWn hgn
  refine bx_done (fun G wz hz => ?_)
  obtain ⟨hH, vz, hWz, rfl, hgz, haz⟩ := hz
  obtain ⟨h0, hal⟩ := HB.out
  have hvo : ∀ (v : Value) (l : List UInt8) (w' : World), Wr w' p base v l → Grow p (.slice none 0 0) v w1 w' → Below w.heap.size w w' := fun v l w' hW hg => hal.trans (hg.only.below hal.size fun x hx hh => by
    have := HP.out
    rcases hh with rfl | hh
    · omega
    · simp [Value.ownBlock] at hh)
  have HVO := Lib.hid hvo
  have hWz0 : Wr wz p base vz (headB M ++ chipsB M 0) := by simpa [chipsB] using hWz
  have hBz := hvo _ _ _ hWz hgz
  have hNz := h0.below hBz
  have hTz := hNz.top
  simp only [topCells, if_true] at hTz
  have t1 := cells_at hTz 4 _ rfl
  simp only [List.getElem_toArray, List.getElem_cons_succ, List.getElem_cons_zero] at t1
  have hlz := heap_lt hTz
  have HZ := Lib.hid (⟨hWz0, hgz⟩ : _ ∧ _)
  clear hH haz hWz hgz hWz0 hBz hNz hTz g0 g1 g2 g3 h0 hal hvo
  go_wp2_with fail
  obtain ⟨hWz0, hgz⟩ := HZ.out
  go_loopw [47] (fun i wr => ∃ (k : Nat) (vv : Value), k ≤ M.mem + 1 ∧ i = .int .i64 k ∧ Wr wr p base vv (headB M ++ chipsB M k) ∧ Grow p (.slice none 0 0) vv w1 wr) (fun i _ => M.mem + 1 - (intOf i).toNat)
  case atStart => exact ⟨0, vz, Nat.zero_le _, rfl, hWz0, hgz⟩
  case round =>
    clear hWz0 hgz t1 hlz HZ
    generalize wr = wo at hrel ⊢
    obtain ⟨k, vv, hk, rfl, hWr, hgr⟩ := hrel
    by_cases hlt : k < M.mem + 1
    · have hlt' : (k : Int) < (M.mem : Int) + 1 := by omega
      obtain ⟨h0, hal⟩ := HB.out
      have hBr := HVO.out _ _ _ hWr hgr
      have hN := h0.below hBr
      have hT := hN.top
      simp only [topCells, if_true] at hT
      have t5 := cells_at hT 5 _ rfl
      simp only [List.getElem_toArray, List.getElem_cons_succ, List.getElem_cons_zero] at t5
      have hlp := heap_lt hT
      have tc := hN.chips.cell (o := k) (by omega)
      have hlc := cell_lt tc
      have td := hN.dead.cell (o := k) (by omega)
      have hld := cell_lt td
      have hle := chipsB_le h0.ok k (by omega)
      have hlen : (headB M ++ chipsB M k).length ≤ 38000000 := by rw [List.length_append, headB_length]; omega
      obtain ⟨l2, hl2⟩ : ∃ l2, l2 = headB M ++ chipsB M k := ⟨_, rfl⟩
      rw [← hl2] at hWr hlen
      have hsc : headB M ++ chipsB M (k + 1) = l2 ++ chipB M k := by rw [chipsB_succ, ← List.append_assoc, hl2]
      have HSC := Lib.hid (⟨hl2, hsc, hlen⟩ : _ ∧ _ ∧ _)
      have hstep : ∀ w2, w2 = wo.alloc (.cells #[.int .u8 (bitN (M.gone k))] 5) → Calls Try.prog 43 #[ptrV p, .slice (some ⟨wo.heap.size, 0, none⟩) 1 1] w2 fun e w' => e = .returned (ptrV p) ∧ ∃ v', Wr w' p base v' (l2 ++ leAll 1 [bitN (M.gone k)]) ∧ Grow p (.slice none 0 0) v' w1 w' := fun w2 hw2 => by
        have hb2 : Below wo.heap.size wo w2 := by rw [hw2]; exact (Below.refl wo.heap.size wo).alloc (Nat.le_refl _) _
        have hs : w2.heap[wo.heap.size]? = some (.cells #[.int .u8 (bitN (M.gone k))] 5 (0, 0)) := by rw [hw2]; exact heap_is rfl
        have hap : ApartW (.slice (some ⟨wo.heap.size, 0, none⟩) 1 1) p vv := fun b o n c e => by
          simp only [Value.slice.injEq, Option.some.injEq, Addr.mk.injEq] at e
          obtain ⟨⟨rfl, -⟩, -⟩ := e
          exact hWr.away (Nat.le_refl _)
        refine (wU8_calls p base vv _ _ [bitN (M.gone k)] w2 (hWr.below hb2) (RV.cells hs rfl (by simp) rfl) hap (fun m hm => ?_) (by omega) (by simp)).mono ?_
        · obtain rfl := List.mem_singleton.mp hm; exact bitN_lt _
        rintro e w' ⟨he, v', hW', hg'⟩
        exact ⟨he, v', hW', hgr.trans ((Grow.new hb2).trans hg')⟩
      have HS := Lib.hid hstep
      clear hstep hsc hl2 hlen hle hWr hgr hN hT h0 hal hBr
      go_wp2_with fail
      refine (bit_calls _ _).mono ?_
      rintro e wn ⟨rfl, rfl⟩
      go_wp2_with fail
      refine (HS.out _ rfl).mono ?_
      rintro e wn ⟨rfl, vn, hWn, hgn⟩
      have hWn0 : Wr wn p base vn (l2 ++ leAll 1 [bitN (M.gone k)] ++ blocksB M k 0) := by simpa [blocksB] using hWn
      have HX := Lib.hid (⟨hWn0, hgn⟩ : _ ∧ _)
      clear hWn hgn hWn0 HS t5 tc td hlc hld hlp
      go_wp2_with fail
      obtain ⟨hWn, hgn⟩ := HX.out
      go_loopw [65] (fun i wr => ∃ (j : Nat) (vv : Value), j ≤ M.blk ∧ i = .int .i64 j ∧ Wr wr p base vv (l2 ++ leAll 1 [bitN (M.gone k)] ++ blocksB M k j) ∧ Grow p (.slice none 0 0) vv w1 wr) (fun i _ => M.blk - (intOf i).toNat)
      case atStart => exact ⟨0, vn, Nat.zero_le _, rfl, hWn, hgn⟩
      case round =>
        clear hWn hgn HX
        obtain ⟨j, vj, hj, rfl, hWj, hgj⟩ := hrel
        by_cases hjlt : j < M.blk
        · have hjlt' : (j : Int) < (M.blk : Int) := by omega
          obtain ⟨h0, hal⟩ := HB.out
          obtain ⟨hl2, hsc, hlen⟩ := HSC.out
          have hBr := HVO.out _ _ _ hWj hgj
          have hN := h0.below hBr
          have hrow := hN.blk k (by omega)
          have c0 := hrow.cell (o := j * 4) (by omega)
          have c1 := hrow.cell (o := j * 4 + 1) (by omega)
          have c2 := hrow.cell (o := j * 4 + 2) (by omega)
          have c3 := hrow.cell (o := j * 4 + 3) (by omega)
          rw [blkCells0] at c0
          rw [blkCells1] at c1
          rw [blkCells2] at c2
          rw [blkCells3] at c3
          have hlc := cell_lt c0
          have hle := blocksB_le h0.ok k j (by omega)
          have hlj : (l2 ++ leAll 1 [bitN (M.gone k)] ++ blocksB M k j).length ≤ 90000000 := by
            rw [List.length_append, List.length_append, leAll_length]; simp only [List.length_cons, List.length_nil]; omega
          have hb2 := (Below.refl wr.heap.size wr).alloc (Nat.le_refl _) (.cells #[.slice (some ⟨L.pb k j, 0, none⟩) M.pgs (L.pc k j), .int .i64 (M.next k j), .int .i64 (M.erases k j), .bool (M.bad k j)] 89)
          have hdump := bdump_calls h0 (hBr.trans (hb2.mono hBr.size)) k j (by omega) hjlt p base vj _ (by rw [HP.out]; exact Nat.le_refl _) (hWj.below hb2) hlj
          have hbs := blocksB_succ M k j
          have HD := Lib.hid (⟨hdump, hgj, hb2, hbs⟩ : _ ∧ _ ∧ _ ∧ _)
          have HJ := Lib.hid hjlt
          clear hdump hgj hb2 hlj hle hrow hN hBr h0 hal hWj hl2 hsc hlen hbs
          go_wp2_with fail
          obtain ⟨hdump, hgj, hb2, hbs⟩ := HD.out
          refine hdump.mono ?_
          rintro e wm ⟨rfl, vm, hWm, hgm⟩
          have hgG := hgj.trans ((Grow.new hb2).trans hgm)
          rw [List.append_assoc _ (blocksB M k j), ← hbs] at hWm
          have HX := Lib.hid (⟨hWm, hgG⟩ : _ ∧ _)
          clear hdump hgj hb2 hgm hgG hWm hbs HD
          go_wp2_with fail
          obtain ⟨hWm, hgG⟩ := HX.out
          go_roundw
          case rel => exact ⟨j + 1, vm, HJ.out, by go_num, hWm, hgG⟩
          case measure => have := HJ.out; simp [intOf]; omega
        · obtain rfl : j = M.blk := by omega
          obtain ⟨hl2, hsc, hlen⟩ := HSC.out
          have hend : l2 ++ leAll 1 [bitN (M.gone k)] ++ blocksB M k M.blk = headB M ++ chipsB M (k + 1) := by
            rw [hsc, chipB, List.append_assoc]
          rw [hend] at hWj
          have HX := Lib.hid (⟨hWj, hgj, hlt⟩ : _ ∧ _ ∧ _)
          clear hWj hgj hend hl2 hsc hlen
          go_wp2_with fail
          obtain ⟨hWj, hgj, hlt⟩ := HX.out
          go_roundw
          case rel => exact ⟨k + 1, vj, by omega, by go_num, hWj, hgj⟩
          case measure => simp [intOf]; omega
    · obtain rfl : k = M.mem + 1 := by omega
      obtain ⟨h0, hal⟩ := HB.out
      have hBr := HVO.out _ _ _ hWr hgr
      have hbl := bodyB_le h0.ok
      have hW0 : Wr wo p base vv (bodyB M) := hWr
      have hbytes := wBytes_calls p base vv (bodyB M) wo hW0 (by omega)
      have HX := Lib.hid (⟨hbytes, hW0, hgr, hBr, hbl⟩ : _ ∧ _ ∧ _ ∧ _ ∧ _)
      clear hbytes hW0 hWr hgr hBr hbl h0 hal
      go_wp2_with fail
      refine HX.out.1.mono ?_
      rintro e w5 ⟨x5, rfl, hx5, hb5⟩
      obtain ⟨-, hW0, hgr, hBr, hbl⟩ := HX.out
      have hx5' : RB w5 x5 (bodyB M) := RV.own hx5
      have hW5 := hW0.below hb5
      have hg5 := hgr.trans (Grow.new hb5)
      obtain ⟨a5, k5, rfl⟩ := own_slice hx5
      have hsum := sum_one _ (bodyB M) w5 31 hx5'
      obtain ⟨sn, hsn⟩ : ∃ sn : Nat, sn = (crcOf (bodyB M)).toNat := ⟨_, rfl⟩
      have hsl : sn < 4294967296 := by rw [hsn]; exact (crcOf (bodyB M)).isLt
      have hsum2 : Calls Try.prog 47 #[.slice (some ⟨w5.heap.size, 0, none⟩) 1 1] (w5.alloc (.cells #[.slice a5 (bodyB M).length k5] 31)) fun e w' => e = .returned (.int .u32 (sn : Int)) ∧ Below w5.heap.size w5 w' := hsum.mono fun e w' h => ⟨by rw [h.1, hsn], h.2⟩
      have HY := Lib.hid (⟨hsum2, hW5, hg5, hbl, hsn⟩ : _ ∧ _ ∧ _ ∧ _ ∧ _)
      clear hsum hsum2 hW5 hg5 hx5 hx5' hb5 hW0 hgr hBr hbl HX hsn
      generalize (bodyB M).length = nb at *
      go_wp2_with fail
      refine HY.out.1.mono ?_
      rintro e w6 ⟨rfl, hb6⟩
      go_wp2_with fail
      obtain ⟨-, hW5, hg5, -, hsn⟩ := HY.out
      have hbl := bodyB_le HB.out.1.ok
      have hW6 := hW5.below hb6
      have hb7 := (Below.refl w6.heap.size w6).alloc (Nat.le_refl _) (.cells #[.int .u32 sn] 108)
      have hs7 : (w6.alloc (.cells #[.int .u32 sn] 108)).heap[w6.heap.size]? = some (.cells #[.int .u32 sn] 108 (0, 0)) := heap_is rfl
      have hap : ApartW (.slice (some ⟨w6.heap.size, 0, none⟩) 1 1) p vv := fun b o n c e => by
        simp only [Value.slice.injEq, Option.some.injEq, Addr.mk.injEq] at e
        obtain ⟨⟨rfl, -⟩, -⟩ := e
        exact hW6.away (Nat.le_refl _)
      refine (wU32_calls p base vv _ _ [sn] _ (hW6.below hb7) (RV.cells hs7 rfl (by simp) rfl) hap (fun m hm => by obtain rfl := List.mem_singleton.mp hm; exact hsl) (by omega) (by simp)).mono ?_
      rintro e w8 ⟨rfl, v8, hW8, hg8⟩
      have hg := hg5.trans ((Grow.new (hb6.trans (hb7.mono hb6.size))).trans hg8)
      have hB8 := HVO.out _ _ _ hW8 hg
      have hd8 : bodyB M ++ leAll 4 [sn] = dumpB M := by rw [hsn]; rfl
      have hdl : (dumpB M).length ≤ 38000004 := by
        rw [← hd8, List.length_append, leAll_length]; simp only [List.length_cons, List.length_nil]; omega
      rw [hd8] at hW8
      have hby := wBytes_calls p base v8 (dumpB M) w8 hW8 (by omega)
      have HX := Lib.hid (⟨hby, hB8⟩ : _ ∧ _)
      clear hby hB8 hW8 hd8 hdl hg hg8 hap hs7 hb7 hW6 hW5 hg5 hbl hsn HY hsl hb6
      go_wp2_with fail
      refine HX.out.1.mono ?_
      rintro e w9 ⟨x9, rfl, hx9, hb9⟩
      have hB9 := HX.out.2.trans (hb9.mono HX.out.2.size)
      have HZ := Lib.hid (⟨own_mono hx9 HX.out.2.size, hB9⟩ : _ ∧ _)
      clear hx9 hb9 hB9 HX
      go_wp2_with fail
      go_ret
      exact ⟨x9, rfl, HZ.out.1, HZ.out.2⟩
end Go.Proofs.Ytphnjiokihbhnaa
