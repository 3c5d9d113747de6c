/- nand: a block as bytes. -/
--only r2
import Derived.Test.YtphnjiokihbhnaaNandRead
import Derived.Test.YtphnjiokihbhnaaDumpKit
namespace Go.Proofs.Ytphnjiokihbhnaa
set_option linter.unusedVariables false
set_option linter.unusedSimpArgs false
open Go.RowKit

set_option maxRecDepth 100000 in
set_option maxHeartbeats 2000000 in
theorem bdump_calls {w0 w : World} {L : NdLay} {M : Nd} (h : NdAt true w0 L M) (hB : Below w0.heap.size w0 w) (c b : Nat) (hc : c ≤ M.mem) (hb : b < M.blk) (p base : Nat) (v : Value) (l : List UInt8) (hp : w0.heap.size ≤ p) (hW : Wr w p base v l) (hl : l.length ≤ 90000000) :
    Calls Try.prog 45 #[.agg #[.slice (some ⟨L.pb c b, 0, none⟩) M.pgs (L.pc c b), .int .i64 (M.next c b), .int .i64 (M.erases c b), .bool (M.bad c b)], ptrV p] w fun e w' => e = .returned (.tuple #[]) ∧ ∃ v', Wr w' p base v' (l ++ blockB M c b) ∧ Grow p v v' w w' := by
  have hnx := h.ok.next c b
  obtain ⟨q, hq⟩ : ∃ q, q = w.heap.size := ⟨_, rfl⟩
  have hQ : (w.alloc (.cells #[.slice (some ⟨L.pb c b, 0, none⟩) M.pgs (L.pc c b), .int .i64 (M.next c b), .int .i64 (M.erases c b), .bool (M.bad c b)] 89)).heap[q]? = some (.cells #[.slice (some ⟨L.pb c b, 0, none⟩) M.pgs (L.pc c b), .int .i64 (M.next c b), .int .i64 (M.erases c b), .bool (M.bad c b)] 89 (0, 0)) := heap_is hq
  have hal := (Below.refl w.heap.size w).alloc (Nat.le_refl _) (.cells #[.slice (some ⟨L.pb c b, 0, none⟩) M.pgs (L.pc c b), .int .i64 (M.next c b), .int .i64 (M.erases c b), .bool (M.bad c b)] 89)
  generalize hw1 : w.alloc (.cells #[.slice (some ⟨L.pb c b, 0, none⟩) M.pgs (L.pc c b), .int .i64 (M.next c b), .int .i64 (M.erases c b), .bool (M.bad c b)] 89) = w1 at hQ hal
  have HW1 := Lib.hid hw1
  clear hw1
  obtain ⟨K, hKd⟩ : ∃ K, K = [(q, Obj.cells #[.slice (some ⟨L.pb c b, 0, none⟩) M.pgs (L.pc c b), .int .i64 (M.next c b), .int .i64 (M.erases c b), .bool (M.bad c b)] 89 (0, 0))] := ⟨_, rfl⟩
  have hAway : Away K p v := fun x hx => by
    rw [hKd] at hx
    obtain rfl : x = _ := by simpa using hx
    exact hW.away (show w.heap.size ≤ q by omega)
  have hHeld : Held K w1 := fun x hx => by
    rw [hKd] at hx
    obtain rfl : x = _ := by simpa using hx
    exact hQ
  have g0 : ∀ w', Held K w' → w'.cell? ⟨q, 0, none⟩ = some (.slice (some ⟨L.pb c b, 0, none⟩) M.pgs (L.pc c b)) := fun w' h => h.cell (by rw [hKd]; exact List.mem_cons_self) 0 _ rfl
  have g1 : ∀ w', Held K w' → w'.cell? ⟨q, 1, none⟩ = some (.int .i64 (M.next c b)) := fun w' h => h.cell (by rw [hKd]; exact List.mem_cons_self) 1 _ rfl
  have g2 : ∀ w', Held K w' → w'.cell? ⟨q, 2, none⟩ = some (.int .i64 (M.erases c b)) := fun w' h => h.cell (by rw [hKd]; exact List.mem_cons_self) 2 _ rfl
  have g3 : ∀ w', Held K w' → w'.cell? ⟨q, 3, none⟩ = some (.bool (M.bad c b)) := fun w' h => h.cell (by rw [hKd]; exact List.mem_cons_self) 3 _ rfl
  have hA : WB K p base v l w (fun b => b = p ∨ v.ownBlock = some b) w1.drew := ⟨hHeld.below (Below.refl _ _).drew, v, hW.below hal.drew, rfl, Grow.new hal.drew, hAway⟩
  have hgood : Good (Held K) (WB K p base v l w) := WB.good
  have hlp := heap_lt hW.cell
  have HN := Lib.hid (⟨h, hB⟩ : _ ∧ _)
  have hvo : ∀ x, x = p ∨ v.ownBlock = some x → w0.heap.size ≤ x := fun x hx => by
    rcases hx with rfl | hx
    · exact hp
    · have := (hW.own.lt x hx).1; have := hW.lt; omega
  have HVO := Lib.hid hvo
  clear hvo
  have HK := Lib.hid hKd
  clear hHeld hQ hal hAway hKd hW h hB
  go_enter Try.func45, Try.ntmps45
  go_wp2_with fail
  rw [HW1.out, ← hq]
  have HQ := Lib.hid hq
  clear HW1 hq
  (refine wp_region_born [.soft 0, .soft 1, .soft 2, .soft 4, .soft 5, .soft 6, .soft 9, .soft 10, .soft 11, .ann 12, .hard 3, .ann 7, .take 7, .hard 8, .take 12, .hard 13] [(true, true), (true, true), (true, false), (false, false), (true, true), (true, false), (true, true), (false, false), (false, false), (true, true), (true, false), (true, true), (false, false), (false, false)] [0, 0, 2, 6, 0, 16, 48, 126, 255, 0, 512, 1536, 3584, 8191] (Held K) (WB K p base v l w) (fun b => b = p ∨ v.ownBlock = some b) (by kernel_rfl) (by kernel_rfl) ?_ ?_ ?_)
  · exact hgood
  · exact hA
  clear hA hgood
  iterate 9 (first | (refine bx_pure rfl (fun KK hKK => ?_); go_simp; refine hKK _ ?_; clear hKK KK) | (refine bx_load rfl rfl ?_ (fun KK hKK => ?_); (focus (first | rfl | (go_simp; done))); apply Exists.intro; apply And.intro; (focus (intro w' hC; go_simp; exact rfl)); go_simp; refine hKK _ ?_; clear hKK KK) | (refine bx_skip rfl ?_ (fun KK hKK => ?_); (focus (first | rfl | (go_simp; done))); go_simp; refine hKK _ ?_; clear hKK KK))
  (apply bx_ann rfl; (focus (intro w n hL hn; go_simp; (first | exact ⟨rfl, rfl⟩ | exact rfl))))
  refine bx_one rfl (by first | rfl | (go_simp; done)) (fun G wc hA R hR hX => ?_)
  obtain ⟨hH, vv, hW1, rfl, hg, haw⟩ := hA
  go_wp2_with fail
  refine (bit_calls _ wc).mono ?_
  rintro e wn ⟨rfl, rfl⟩
  go_wp2_with fail
  refine hR _ _ rfl ⟨WB K p base v l w, _, WB.good, ⟨hH, vv, hW1, rfl, hg, haw⟩, Only.refl _ _, fun _ h => .inl h, ?_⟩
  clear hR hX R hH hW1 hg haw
  (apply bx_ann rfl; (focus (intro w n hL hn; go_simp; (first | exact ⟨rfl, rfl⟩ | exact rfl))))
  (refine bx_take rfl rfl (fun b1 KK hKK => ?_); go_simp; refine hKK _ ?_; clear hKK KK)
  refine bx_one rfl (by first | rfl | (go_simp; done)) (fun G wc hA R hR hX => ?_)
  obtain ⟨⟨hH, vv, hW1, rfl, hg, haw⟩, hs, hnG⟩ := hA
  go_wp2_with fail
  refine (wU8_calls p base vv _ l [bitN (M.bad c b), M.next c b] wc hW1 (RV.cells hs rfl (by simp) rfl) (WA.apart hnG) (fun n hn => ?_) (by omega) (by simp)).mono ?_
  · simp only [List.mem_cons, List.not_mem_nil, or_false] at hn
    rcases hn with rfl | rfl
    · exact bitN_lt _
    · omega
  rintro e wn ⟨rfl, vn, hWn, hgn⟩
  go_wp2_with fail
  refine hR _ _ rfl ⟨WB K p base v (l ++ leAll 1 [bitN (M.bad c b), M.next c b]) w, _, WB.good, WB.next hH hW1 hg haw hWn hgn, hgn.only, WA.row hgn, ?_⟩
  clear hR hX R hH hW1 hg haw hs hnG hWn hgn
  (refine bx_take rfl rfl (fun b2 KK hKK => ?_); go_simp; refine hKK _ ?_; clear hKK KK)
  refine bx_one rfl (by first | rfl | (go_simp; done)) (fun G wc hA R hR hX => ?_)
  obtain ⟨⟨hH, vv, hW1, rfl, hg, haw⟩, hs, hnG⟩ := hA
  go_wp2_with fail
  refine (wU32_calls p base vv _ _ [M.erases c b % 4294967296] wc hW1 (RV.cells hs rfl (by simp) rfl) (WA.apart hnG) (fun n hn => ?_) (by simp [leAll_length]; omega) (by simp)).mono ?_
  · obtain rfl := List.mem_singleton.mp hn
    omega
  rintro e wn ⟨rfl, vn, hWn, hgn⟩
  go_wp2_with fail
  refine hR _ _ rfl ⟨WB K p base v (l ++ leAll 1 [bitN (M.bad c b), M.next c b] ++ leAll 4 [M.erases c b % 4294967296]) w, _, WB.good, WB.next hH hW1 hg haw hWn hgn, hgn.only, WA.row hgn, ?_⟩
  clear hR hX R hH hW1 hg haw hs hnG hWn hgn
  refine bx_done (fun G wz hz => ?_)
  obtain ⟨hH, vz, hWz, rfl, hgz, haz⟩ := hz
  have z0 := g0 wz hH
  have hlq := cell_lt z0
  obtain ⟨l1, hl1⟩ : ∃ l1, l1 = l ++ leAll 1 [bitN (M.bad c b), M.next c b] ++ leAll 4 [M.erases c b % 4294967296] := ⟨_, rfl⟩
  have hl1l : l1.length ≤ 90000006 := by rw [hl1]; simp [leAll_length]; omega
  rw [← hl1] at hWz
  have hWz0 : Wr wz p base vz (l1 ++ pagesB M c b 0) := by simpa [pagesB] using hWz
  have HL := Lib.hid hl1
  have HL1 := Lib.hid hl1l
  have HZ := Lib.hid (⟨hWz0, hgz⟩ : _ ∧ _)
  clear hl1 hl1l hWz hgz haz g0 g1 g2 g3 hH HK hWz0
  go_wp2_with fail
  obtain ⟨hWz0, hgz⟩ := HZ.out
  go_loopw [23] (fun i wr => ∃ (k : Nat) (vv : Value), k ≤ M.pgs ∧ i = .int .i64 k ∧ Wr wr p base vv (l1 ++ pagesB M c b k) ∧ Grow p v vv w wr) (fun i _ => M.pgs - (intOf i).toNat)
  case atStart => exact ⟨0, vz, Nat.zero_le _, rfl, hWz0, hgz⟩
  case round =>
    clear hWz0 hgz z0
    obtain ⟨k, vv, hk, rfl, hWr, hgr⟩ := hrel
    by_cases hlt : k < M.pgs
    · have hlt' : (k : Int) < (M.pgs : Int) := by omega
      obtain ⟨hN0, hB0⟩ := HN.out
      have hBr : Below w0.heap.size w0 wr := hB0.trans (hgr.only.below hB0.size fun x hx hh => by have := HVO.out x hh; omega)
      have hN := hN0.below hBr
      have c0 := (hN.pgs c b hc hb).cell (o := k * 2) (by show k * 2 < M.pgs * 2; omega)
      have c1 := (hN.pgs c b hc hb).cell (o := k * 2 + 1) (by show k * 2 + 1 < M.pgs * 2; omega)
      have hpg := hN0.pg c b k hc hb hlt
      have hpl := hN0.ok.page c b k
      have hsz := hN0.ok.siz
      have hlg := cell_lt c0
      have hle := pagesB_le hN0.ok c b k (by omega)
      have hlen : (l1 ++ pagesB M c b k).length ≤ 91000000 := by rw [List.length_append]; have := HL1.out; omega
      have hsc := pagesB_succ M c b k
      generalize M.page c b k = pg at hpg hsc hpl
      simp only [Pg] at hpg
      generalize L.pv c b (k * 2) = x0 at c0 hpg
      generalize L.pv c b (k * 2 + 1) = x1 at c1 hpg
      have hlq5 : p < wr.heap.size := heap_lt hWr.cell
      have hstep : ∀ (A : Array Value) (n : Nat), n < 256 → ∀ w2, w2 = (wr.alloc (.cells A 96)).alloc (.cells #[.int .u8 n] 5) → Calls Try.prog 43 #[ptrV p, .slice (some ⟨wr.heap.size + 1, 0, none⟩) 1 1] w2 fun e w' => e = .returned (ptrV p) ∧ ∃ v', Wr w' p base v' (l1 ++ pagesB M c b k ++ leAll 1 [n]) ∧ Grow p v v' w w' ∧ w'.heap[wr.heap.size]? = some (.cells A 96 (0, 0)) ∧ wr.heap.size ≠ p ∧ v'.ownBlock ≠ some wr.heap.size ∧ Below w0.heap.size w0 w' := fun A n hn w2 hw2 => by
        have hb2 : Below wr.heap.size wr w2 := by rw [hw2]; exact ((Below.refl wr.heap.size wr).alloc (Nat.le_refl _) _).alloc (by simp) _
        have hs : w2.heap[wr.heap.size + 1]? = some (.cells #[.int .u8 n] 5 (0, 0)) := by rw [hw2]; exact heap_is (by simp)
        have hQ5 : w2.heap[wr.heap.size]? = some (.cells A 96 (0, 0)) := by rw [hw2]; exact heap_old _ (heap_is rfl)
        have hap : ApartW (.slice (some ⟨wr.heap.size + 1, 0, none⟩) 1 1) p vv := fun b o n c e => by
          simp only [Value.slice.injEq, Option.some.injEq, Addr.mk.injEq] at e
          obtain ⟨⟨rfl, -⟩, -⟩ := e
          exact hWr.away (by omega)
        refine (wU8_calls p base vv _ _ [n] w2 (hWr.below hb2) (RV.cells hs rfl (by simp) rfl) hap (fun m hm => ?_) (by omega) (by simp)).mono ?_
        · obtain rfl := List.mem_singleton.mp hm; exact hn
        rintro e w' ⟨he, v', hW', hg'⟩
        obtain ⟨a1, a2⟩ := hWr.away (Nat.le_refl _)
        obtain ⟨b1, b2⟩ := hg'.at hQ5 a1 a2
        have hG := hgr.trans ((Grow.new hb2).trans hg')
        exact ⟨he, v', hW', hG, b1, a1, b2, hB0.trans (hG.only.below hB0.size fun x hx hh => by have := HVO.out x hh; omega)⟩
      have HS := Lib.hid hstep
      have HLT := Lib.hid hlt
      have hpgs := hN0.ok.pgs.2
      have HN0 := Lib.hid hN0
      have HB0 := Lib.hid hB0
      have HSC := Lib.hid hsc
      have HLN := Lib.hid hlen
      clear hstep hsc hlen hle hWr hgr hN hN0 hB0 hBr hsz
      rcases hpg with ⟨rfl, rfl, rfl⟩ | ⟨hne, hx0, hx1⟩
      · have hcmp := cmpN_none
        simp only [nilV] at c0 c1
        go_wp2_with fail
        refine (bit_calls _ _).mono ?_
        rintro e wn ⟨rfl, rfl⟩
        go_wp2_with fail
        refine (HS.out _ 0 (by omega) _ rfl).mono ?_
        rintro e wn ⟨rfl, vn, hWn, hgn, hQn, -, -, -⟩
        have d0 := cells_at hQn 0 _ rfl
        have hld := heap_lt hQn
        have HX := Lib.hid (⟨hWn, hgn⟩ : _ ∧ _)
        clear hWn hgn hQn
        go_wp2_with fail
        obtain ⟨hWn, hgn⟩ := HX.out
        go_roundw
        case rel => exact ⟨k + 1, vn, HLT.out, by go_num, by rw [HSC.out, ← List.append_assoc]; simpa [pageB, bitN] using hWn, hgn⟩
        case measure => have := HLT.out; simp [intOf]; omega
      · have hpl' : pg.length = M.siz + 64 := hpl.resolve_left hne
        have hsz' := HN0.out.ok.siz
        have hx0l : 0 < (pg.take M.siz).length := by rw [List.length_take]; omega
        obtain ⟨bb, bo, cp0, rfl, -, -, -⟩ := hx0.out hx0l
        obtain ⟨a1, cp1, rfl, -, -⟩ := hx1.form
        have hcmp := cmpN_some ⟨bb, bo, none⟩ (pg.take M.siz).length cp0
        have hcat : pg.take M.siz ++ pg.drop M.siz = pg := List.take_append_drop _ _
        have HCAT := Lib.hid (⟨hcat, hx0, hx1, hpl', hsz'⟩ : _ ∧ _ ∧ _ ∧ _ ∧ _)
        clear hcat hx0 hx1 hpl' hx0l hsz' hpl
        generalize (pg.take M.siz).length = n0 at *
        generalize (pg.drop M.siz).length = n1 at *
        go_wp2_with fail
        refine (bit_calls _ _).mono ?_
        rintro e wn ⟨rfl, rfl⟩
        go_wp2_with fail
        refine (HS.out _ 1 (by omega) _ rfl).mono ?_
        rintro e wn ⟨rfl, vn, hWn, hgn, hQn, hq1, hq2, hBn⟩
        have d0 : ∀ w' : World, w'.heap[wr.heap.size]? = some (.cells #[.slice (some ⟨bb, bo, none⟩) n0 cp0, .slice a1 n1 cp1] 96 (0, 0)) → w'.cell? ⟨wr.heap.size, 0, none⟩ = some (.slice (some ⟨bb, bo, none⟩) n0 cp0) := fun w' h => cells_at h 0 _ rfl
        have d1 : ∀ w' : World, w'.heap[wr.heap.size]? = some (.cells #[.slice (some ⟨bb, bo, none⟩) n0 cp0, .slice a1 n1 cp1] 96 (0, 0)) → w'.cell? ⟨wr.heap.size, 1, none⟩ = some (.slice a1 n1 cp1) := fun w' h => cells_at h 1 _ rfl
        have d00 := d0 wn hQn
        have hld := heap_lt hQn
        have HX := Lib.hid (⟨hWn, hgn, hQn, hq1, hq2, hBn⟩ : _ ∧ _ ∧ _ ∧ _ ∧ _ ∧ _)
        clear hWn hgn hQn hq1 hq2 hBn
        go_wp2_with fail
        clear d00
        obtain ⟨hWn, hgn, hQn, hq1, hq2, hBn⟩ := HX.out
        (refine wp_region_mix [0, 1, 2, 4, 5, 3, 6] [(true, true), (true, true), (true, false), (true, true), (true, false), (false, true), (false, false)] [0, 0, 2, 7, 0, 16, 63] (fun w' => w'.heap[wr.heap.size]? = some (.cells #[.slice (some ⟨bb, bo, none⟩) n0 cp0, .slice a1 n1 cp1] 96 (0, 0))) (by kernel_rfl) (by kernel_rfl) ?_ ?_; rotate_left; simp only [pickL, List.map_cons, List.map_nil, List.getD_cons_succ, List.getD_cons_zero])
        rotate_left
        focus exact hQn
        (repeat (first | (refine mix_pure (fun hne K hK => ?_); go_simp; refine hK _ ?_; clear hK K hne) | (refine mix_load ?_ (fun K hK => ?_); (focus (first | rfl | (go_simp; done))); apply Exists.intro; apply And.intro; (focus (intro w' hC; go_simp; exact rfl)); go_simp; refine hK _ ?_; clear hK K) | (refine mix_skip ?_ (fun K hK => ?_); (focus (first | rfl | (go_simp; done))); go_simp; refine hK _ ?_; clear hK K)))
        (refine mix_one (by first | rfl | (go_simp; done)) (fun R hR hX => ?_))
        go_wp2_with fail
        obtain ⟨hcat, hx0, hx1, hpl', hsz'⟩ := HCAT.out
        have hlen := HLN.out
        have hdr := (Below.refl wn.heap.size wn).drew
        refine (wRaw_calls p base vn _ _ (pg.take M.siz) wn.drew (hWn.below hdr) (hx0.below (hBn.trans (hdr.mono hBn.size))) (by rw [List.length_append, leAll_length]; simp only [List.length_cons, List.length_nil]; omega) (by rw [List.length_take]; omega)).mono ?_
        rintro e w5 ⟨rfl, v5, hW5, hg5⟩
        obtain ⟨c51, c52⟩ := hg5.at (w := wn.drew) hQn hq1 hq2
        have hgG := hgn.drew.trans hg5
        have hB5 : Below w0.heap.size w0 w5 := HB0.out.trans (hgG.only.below HB0.out.size fun x hx hh => by have := HVO.out x hh; omega)
        clear hg5 hWn hgn hQn hq2 hBn hdr
        go_wp2_with fail
        refine hR _ _ rfl ⟨_, c51, fun _ => rfl, ?_⟩
        clear hR hX R
        (repeat (first | (refine mix_pure (fun hne K hK => ?_); go_simp; refine hK _ ?_; clear hK K hne) | (refine mix_load ?_ (fun K hK => ?_); (focus (first | rfl | (go_simp; done))); apply Exists.intro; apply And.intro; (focus (intro w' hC; go_simp; exact rfl)); go_simp; refine hK _ ?_; clear hK K) | (refine mix_skip ?_ (fun K hK => ?_); (focus (first | rfl | (go_simp; done))); go_simp; refine hK _ ?_; clear hK K)))
        (refine mix_one (by first | rfl | (go_simp; done)) (fun R hR hX => ?_))
        go_wp2_with fail
        refine (wRaw_calls p base v5 _ _ (pg.drop M.siz) w5 hW5 (hx1.below hB5) (by rw [List.length_append, List.length_append, leAll_length, List.length_take]; simp only [List.length_cons, List.length_nil]; omega) (by rw [List.length_drop]; omega)).mono ?_
        rintro e w6 ⟨rfl, v6, hW6, hg6⟩
        obtain ⟨c61, c62⟩ := hg6.at c51 hq1 c52
        have hfin : Wr w6 p base v6 (l1 ++ pagesB M c b (k + 1)) := by
          have : l1 ++ pagesB M c b k ++ leAll 1 [1] ++ List.take M.siz pg ++ List.drop M.siz pg = l1 ++ pagesB M c b (k + 1) := by
            rw [HSC.out]
            simp only [pageB, List.append_assoc, hcat, decide_eq_true hne, bitN, if_true]
          rw [← this]; exact hW6
        have HX2 := Lib.hid (⟨hfin, hgG.trans hg6⟩ : _ ∧ _)
        clear hfin hgG hg6 hW6 hW5 hB5 hx0 hx1 c51 c52 hlen hcat hpl' hsz'
        go_wp2_with fail
        refine hR _ _ rfl ⟨_, c61, fun _ => rfl, ?_⟩
        clear hR hX R
        refine mix_done ?_
        clear d0 d1 c61 c62 hq1 hld
        go_wp2_with fail
        obtain ⟨hWn, hgn⟩ := HX2.out
        go_roundw
        case rel => exact ⟨k + 1, v6, HLT.out, by go_num, hWn, hgn⟩
        case measure => have := HLT.out; simp [intOf]; omega
    · obtain rfl : k = M.pgs := by omega
      have hend : l1 ++ pagesB M c b M.pgs = l ++ blockB M c b := by
        rw [HL.out, blockB]
        simp only [List.append_assoc]
      rw [hend] at hWr
      have HX := Lib.hid (⟨hWr, hgr⟩ : _ ∧ _)
      clear hWr hgr hend
      go_wp2_with fail
      ((try simp only [Exit.inBlock, Exit.then]); (first | refine bodyPost_end (results_none rfl _ _ _) rfl ?_ | refine bodyPost_ret (results_none rfl _ _ _) rfl ?_))
      exact ⟨rfl, vv, HX.out.1, HX.out.2⟩
end Go.Proofs.Ytphnjiokihbhnaa
