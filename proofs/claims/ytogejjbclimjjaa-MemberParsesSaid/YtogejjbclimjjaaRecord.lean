/- record: a header's bytes; what stands beside a page. -/
--only r2
import Derived.Test.YtogejjbclimjjaaRead
import Derived.Test.YtogejjbclimjjaaChain
namespace Go.Proofs.Ytogejjbclimjjaa
set_option linter.unusedVariables false
set_option linter.unusedSimpArgs false
open Go.RowKit

/-- a header -/
structure Hdr where
  kind : Nat
  epoch : Nat
  batch : Nat
  index : Nat
  count : Nat
  block : Nat
  more : Nat
structure Hdr.Ok (h : Hdr) : Prop where
  kind : h.kind < 256
  epoch : h.epoch < 4294967296
  batch : h.batch < 4294967296
  index : h.index < 65536
  count : h.count < 65536
  block : h.block < 4294967296
  more : h.more < 4294967296
def Hdr.cells (h : Hdr) : Array Value := #[.int .u8 h.kind, .int .u32 h.epoch, .int .u32 h.batch, .int .u16 h.index, .int .u16 h.count, .int .u32 h.block, .int .u32 h.more]
def Hdr.v (h : Hdr) : Value := .agg h.cells
def Hdr.bytes (h : Hdr) : List UInt8 := [] ++ leAll 2 [22356] ++ leAll 1 [h.kind, 0] ++ leAll 4 [h.epoch, h.batch] ++ leAll 2 [h.index, h.count] ++ leAll 4 [h.block, h.more]

set_option maxRecDepth 100000 in
set_option maxHeartbeats 2000000 in
theorem fields_calls (h : Hdr) (ho : h.Ok) (w : World) :
    Calls Try.prog 76 #[h.v] w fun e w' => ∃ x, e = .returned x ∧ w'.ownsRow w.heap.size 5 1 x h.bytes.length (h.bytes.map u8v) ∧ Below w.heap.size w w' := by
  obtain ⟨ok0, ok1, ok2, ok3, ok4, ok5, ok6⟩ := ho
  obtain ⟨k, ep, ba, ix, ct, bk, mo⟩ := h
  simp only [Hdr.v, Hdr.cells, Hdr.bytes] at *
  go_enter Try.func76, Try.ntmps76
  go_wp2_with fail
  have hC : ((w.alloc (.cells #[.int .u8 (k : Int), .int .u32 (ep : Int), .int .u32 (ba : Int), .int .u16 (ix : Int), .int .u16 (ct : Int), .int .u32 (bk : Int), .int .u32 (mo : Int)] 98)).alloc (.cells #[.slice none 0 0] 115)).heap[w.heap.size]? = some (.cells #[.int .u8 (k : Int), .int .u32 (ep : Int), .int .u32 (ba : Int), .int .u16 (ix : Int), .int .u16 (ct : Int), .int .u32 (bk : Int), .int .u32 (mo : Int)] 98 (0, 0)) := heap_old _ (heap_is rfl)
  have hP : ((w.alloc (.cells #[.int .u8 (k : Int), .int .u32 (ep : Int), .int .u32 (ba : Int), .int .u16 (ix : Int), .int .u16 (ct : Int), .int .u32 (bk : Int), .int .u32 (mo : Int)] 98)).alloc (.cells #[.slice none 0 0] 115)).heap[w.heap.size + 1]? = some (.cells #[.slice none 0 0] 115 (0, 0)) := heap_is (by simp)
  have hbel := ((Below.refl w.heap.size w).alloc (Nat.le_refl _) (.cells #[.int .u8 (k : Int), .int .u32 (ep : Int), .int .u32 (ba : Int), .int .u16 (ix : Int), .int .u16 (ct : Int), .int .u32 (bk : Int), .int .u32 (mo : Int)] 98)).alloc (by simp) (.cells #[.slice none 0 0] 115)
  have hsz : ((w.alloc (.cells #[.int .u8 (k : Int), .int .u32 (ep : Int), .int .u32 (ba : Int), .int .u16 (ix : Int), .int .u16 (ct : Int), .int .u32 (bk : Int), .int .u32 (mo : Int)] 98)).alloc (.cells #[.slice none 0 0] 115)).heap.size = w.heap.size + 2 := by simp
  generalize (w.alloc (.cells #[.int .u8 (k : Int), .int .u32 (ep : Int), .int .u32 (ba : Int), .int .u16 (ix : Int), .int .u16 (ct : Int), .int .u32 (bk : Int), .int .u32 (mo : Int)] 98)).alloc (.cells #[.slice none 0 0] 115) = w1 at hC hP hbel hsz ⊢
  have hW : Wr w1 (w.heap.size + 1) (w.heap.size + 2) (.slice none 0 0) [] := Wr.empty hP (by omega) (by omega)
  obtain ⟨p, hp⟩ : ∃ p, p = w.heap.size + 1 := ⟨_, rfl⟩
  obtain ⟨base, hbase⟩ : ∃ b, b = w.heap.size + 2 := ⟨_, rfl⟩
  obtain ⟨bh, hbh⟩ : ∃ b, b = w.heap.size := ⟨_, rfl⟩
  rw [← hp, ← hbase] at hW
  rw [← hp, ← hbh]
  rw [← hbh] at hC
  have hB : w.heap.size ≤ p := by omega
  obtain ⟨K, hKd⟩ : ∃ K, K = [(bh, Obj.cells #[.int .u8 (k : Int), .int .u32 (ep : Int), .int .u32 (ba : Int), .int .u16 (ix : Int), .int .u16 (ct : Int), .int .u32 (bk : Int), .int .u32 (mo : Int)] 98 (0, 0))] := ⟨_, rfl⟩
  have hK : ∀ x ∈ K, x.1 < base ∧ x.1 ≠ p := fun x hx => by
    rw [hKd] at hx
    obtain rfl : x = _ := by simpa using hx
    exact ⟨by show bh < base; omega, by show bh ≠ p; omega⟩
  have hHeld : Held K w1 := fun x hx => by
    rw [hKd] at hx
    obtain rfl : x = _ := by simpa using hx
    exact hC
  have g0 : ∀ w', Held K w' → w'.cell? ⟨bh, 0, none⟩ = some (.int .u8 (k : Int)) := fun w' h => h.cell (by rw [hKd]; exact List.mem_cons_self) 0 _ rfl
  have g1 : ∀ w', Held K w' → w'.cell? ⟨bh, 1, none⟩ = some (.int .u32 (ep : Int)) := fun w' h => h.cell (by rw [hKd]; exact List.mem_cons_self) 1 _ rfl
  have g2 : ∀ w', Held K w' → w'.cell? ⟨bh, 2, none⟩ = some (.int .u32 (ba : Int)) := fun w' h => h.cell (by rw [hKd]; exact List.mem_cons_self) 2 _ rfl
  have g3 : ∀ w', Held K w' → w'.cell? ⟨bh, 3, none⟩ = some (.int .u16 (ix : Int)) := fun w' h => h.cell (by rw [hKd]; exact List.mem_cons_self) 3 _ rfl
  have g4 : ∀ w', Held K w' → w'.cell? ⟨bh, 4, none⟩ = some (.int .u16 (ct : Int)) := fun w' h => h.cell (by rw [hKd]; exact List.mem_cons_self) 4 _ rfl
  have g5 : ∀ w', Held K w' → w'.cell? ⟨bh, 5, none⟩ = some (.int .u32 (bk : Int)) := fun w' h => h.cell (by rw [hKd]; exact List.mem_cons_self) 5 _ rfl
  have g6 : ∀ w', Held K w' → w'.cell? ⟨bh, 6, none⟩ = some (.int .u32 (mo : Int)) := fun w' h => h.cell (by rw [hKd]; exact List.mem_cons_self) 6 _ rfl
  have hd := (Below.refl w1.heap.size w1).drew
  have hA : WA K p base [] w.heap.size w (fun b => b = p ∨ (Value.slice none 0 0).ownBlock = some b) w1.drew := ⟨hHeld.below hd, _, hW.below hd, rfl, hbel.drew⟩
  have HBH := Lib.hid hbh
  clear hKd hp hbase hbh hC hP hsz hW hHeld hd hbel
  (refine wp_region_born [.soft 0, .soft 3, .soft 4, .soft 7, .soft 8, .soft 9, .soft 10, .soft 13, .soft 14, .soft 15, .soft 16, .soft 19, .soft 20, .soft 21, .soft 22, .ann 1, .ann 5, .ann 11, .ann 17, .ann 23, .take 1, .hard 2, .take 5, .hard 6, .take 11, .hard 12, .take 17, .hard 18, .take 23, .hard 24, .hard 25, .soft 26] [(true, true), (false, false), (false, false), (true, true), (true, false), (false, false), (false, false), (true, true), (true, false), (true, true), (true, false), (false, false), (false, false), (true, true), (true, false), (true, true), (true, false), (false, false), (false, false), (true, true), (true, false), (true, true), (true, false), (false, false), (false, false), (false, false), (true, true)] [0, 0, 3, 0, 8, 24, 63, 0, 128, 0, 512, 1920, 4095, 0, 8192, 0, 32768, 122880, 262143, 0, 524288, 0, 2097152, 7864320, 16777215, 33554431, 67108863] (Held K) (WA K p base [] w.heap.size w) (fun b => b = p ∨ (Value.slice none 0 0).ownBlock = some b) (by kernel_rfl) (by kernel_rfl) ?_ ?_ ?_)
  · exact WA.good hB
  · exact hA
  clear hA
  iterate 15 (first | (refine bx_pure rfl (fun KK hKK => ?_); go_simp; refine hKK _ ?_; clear hKK KK) | (refine bx_load rfl rfl ?_ (fun KK hKK => ?_); (focus (first | rfl | (go_simp; done))); apply Exists.intro; apply And.intro; (focus (intro w' hC; go_simp; exact rfl)); go_simp; refine hKK _ ?_; clear hKK KK) | (refine bx_skip rfl ?_ (fun KK hKK => ?_); (focus (first | rfl | (go_simp; done))); go_simp; refine hKK _ ?_; clear hKK KK))
  iterate 5 (apply bx_ann rfl; (focus (intro w n hL hn; go_simp; (first | exact ⟨rfl, rfl⟩ | exact rfl))))
  (refine bx_take rfl rfl (fun b1 KK hKK => ?_); go_simp; refine hKK _ ?_; clear hKK KK)
  (refine bx_one rfl (by first | rfl | (go_simp; done)) (fun G wc hA R hR hX => ?_); obtain ⟨⟨hH, v, hW, rfl, hbw⟩, hs, hnG⟩ := hA; go_wp2_with fail; refine (wU16_calls p base v _ _ [22356] wc hW (RV.cells hs rfl (by simp) rfl) (WA.apart hnG) (by simp only [List.mem_cons, List.not_mem_nil, or_false, forall_eq_or_imp, forall_eq]; omega) (by simp [leAll_length]) (by simp)).mono ?_; rintro e wn ⟨rfl, vn, hWn, hg⟩; go_wp2_with fail; refine hR _ _ rfl ⟨_, _, WA.good hB, WA.next hB hK hH hW hbw hWn hg, hg.only, WA.row hg, ?_⟩; clear hR hX R hH hW hbw hs hnG hWn hg)
  (refine bx_take rfl rfl (fun b2 KK hKK => ?_); go_simp; refine hKK _ ?_; clear hKK KK)
  (refine bx_one rfl (by first | rfl | (go_simp; done)) (fun G wc hA R hR hX => ?_); obtain ⟨⟨hH, v, hW, rfl, hbw⟩, hs, hnG⟩ := hA; go_wp2_with fail; refine (wU8_calls p base v _ _ [k, 0] wc hW (RV.cells hs rfl (by simp) rfl) (WA.apart hnG) (by simp only [List.mem_cons, List.not_mem_nil, or_false, forall_eq_or_imp, forall_eq]; omega) (by simp [leAll_length]) (by simp)).mono ?_; rintro e wn ⟨rfl, vn, hWn, hg⟩; go_wp2_with fail; refine hR _ _ rfl ⟨_, _, WA.good hB, WA.next hB hK hH hW hbw hWn hg, hg.only, WA.row hg, ?_⟩; clear hR hX R hH hW hbw hs hnG hWn hg)
  (refine bx_take rfl rfl (fun b3 KK hKK => ?_); go_simp; refine hKK _ ?_; clear hKK KK)
  (refine bx_one rfl (by first | rfl | (go_simp; done)) (fun G wc hA R hR hX => ?_); obtain ⟨⟨hH, v, hW, rfl, hbw⟩, hs, hnG⟩ := hA; go_wp2_with fail; refine (wU32_calls p base v _ _ [ep, ba] wc hW (RV.cells hs rfl (by simp) rfl) (WA.apart hnG) (by simp only [List.mem_cons, List.not_mem_nil, or_false, forall_eq_or_imp, forall_eq]; omega) (by simp [leAll_length]) (by simp)).mono ?_; rintro e wn ⟨rfl, vn, hWn, hg⟩; go_wp2_with fail; refine hR _ _ rfl ⟨_, _, WA.good hB, WA.next hB hK hH hW hbw hWn hg, hg.only, WA.row hg, ?_⟩; clear hR hX R hH hW hbw hs hnG hWn hg)
  (refine bx_take rfl rfl (fun b4 KK hKK => ?_); go_simp; refine hKK _ ?_; clear hKK KK)
  (refine bx_one rfl (by first | rfl | (go_simp; done)) (fun G wc hA R hR hX => ?_); obtain ⟨⟨hH, v, hW, rfl, hbw⟩, hs, hnG⟩ := hA; go_wp2_with fail; refine (wU16_calls p base v _ _ [ix, ct] wc hW (RV.cells hs rfl (by simp) rfl) (WA.apart hnG) (by simp only [List.mem_cons, List.not_mem_nil, or_false, forall_eq_or_imp, forall_eq]; omega) (by simp [leAll_length]) (by simp)).mono ?_; rintro e wn ⟨rfl, vn, hWn, hg⟩; go_wp2_with fail; refine hR _ _ rfl ⟨_, _, WA.good hB, WA.next hB hK hH hW hbw hWn hg, hg.only, WA.row hg, ?_⟩; clear hR hX R hH hW hbw hs hnG hWn hg)
  (refine bx_take rfl rfl (fun b5 KK hKK => ?_); go_simp; refine hKK _ ?_; clear hKK KK)
  (refine bx_one rfl (by first | rfl | (go_simp; done)) (fun G wc hA R hR hX => ?_); obtain ⟨⟨hH, v, hW, rfl, hbw⟩, hs, hnG⟩ := hA; go_wp2_with fail; refine (wU32_calls p base v _ _ [bk, mo] wc hW (RV.cells hs rfl (by simp) rfl) (WA.apart hnG) (by simp only [List.mem_cons, List.not_mem_nil, or_false, forall_eq_or_imp, forall_eq]; omega) (by simp [leAll_length]) (by simp)).mono ?_; rintro e wn ⟨rfl, vn, hWn, hg⟩; go_wp2_with fail; refine hR _ _ rfl ⟨_, _, WA.good hB, WA.next hB hK hH hW hbw hWn hg, hg.only, WA.row hg, ?_⟩; clear hR hX R hH hW hbw hs hnG hWn hg)
  (refine bx_one rfl (by first | rfl | (go_simp; done)) (fun G wc hA R hR hX => ?_); obtain ⟨hH, v, hW, rfl, hbw⟩ := hA; go_wp2_with fail; refine (wBytes_calls p base v _ wc hW (by simp [leAll_length])).mono ?_; rintro e wn ⟨x, rfl, hown, hbn⟩; obtain ⟨ax, kx, rfl⟩ := own_slice hown; go_wp2_with fail; have hle := hW.le; have hlt := hW.lt; refine hR _ _ rfl ⟨FinA K (Laid w.heap.size _ _ w), fun _ => False, FinA.good Laid.alloc, ⟨hH.below hbn, fun _ => id, own_mono hown (by omega), hbw.trans (hbn.mono (by omega)), Nat.le_trans (by omega) hbn.size⟩, Only.new hbn _, fun _ h => h.elim, ?_⟩; clear hR hX R hH hW hbw hown hbn)
  (first | (refine bx_pure rfl (fun KK hKK => ?_); go_simp; refine hKK _ ?_; clear hKK KK) | (refine bx_load rfl rfl ?_ (fun KK hKK => ?_); (focus (first | rfl | (go_simp; done))); apply Exists.intro; apply And.intro; (focus (intro w' hC; go_simp; exact rfl)); go_simp; refine hKK _ ?_; clear hKK KK) | (refine bx_skip rfl ?_ (fun KK hKK => ?_); (focus (first | rfl | (go_simp; done))); go_simp; refine hKK _ ?_; clear hKK KK))
  refine bx_done (fun G wz hz => ?_)
  obtain ⟨-, -, h1, h2, -⟩ := hz
  have H1 := Lib.hid h1
  clear h1 g0 g1 g2 g3 g4 g5 g6
  go_wp2_with fail
  go_ret
  exact ⟨_, rfl, H1.out, h2⟩
end Go.Proofs.Ytogejjbclimjjaa
