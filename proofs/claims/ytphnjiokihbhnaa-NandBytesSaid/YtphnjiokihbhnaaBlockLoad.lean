/- nand: a block is loaded. -/
--only r2
import Derived.Test.YtphnjiokihbhnaaNandProg
import Derived.Test.YtphnjiokihbhnaaNandErase
import Derived.Test.YtphnjiokihbhnaaLoadSpec
namespace Go.Proofs.Ytphnjiokihbhnaa
set_option linter.unusedVariables false
set_option linter.unusedSimpArgs false
open Go.RowKit

theorem NdLay.not_S' {L : NdLay} {x : Nat} (h : L.tag x = .none) : ¬ L.S x := fun e => NdLay.S_ne e h
/-- chips that differ in one block alone -/
structure BlkOnly (c b : Nat) (M M' : Nd) : Prop where
  mem : M'.mem = M.mem
  blk : M'.blk = M.blk
  pgs : M'.pgs = M.pgs
  siz : M'.siz = M.siz
  gone : M'.gone = M.gone
  evs : M'.evs = M.evs
  ops : M'.ops = M.ops
  off : M'.off = M.off
  page : ∀ x y, ¬ (x = c ∧ y = b) → M'.page x y = M.page x y
  next : ∀ x y, ¬ (x = c ∧ y = b) → M'.next x y = M.next x y
  erases : ∀ x y, ¬ (x = c ∧ y = b) → M'.erases x y = M.erases x y
  bad : ∀ x y, ¬ (x = c ∧ y = b) → M'.bad x y = M.bad x y
theorem BlkOnly.refl (c b : Nat) (M : Nd) : BlkOnly c b M M := ⟨rfl, rfl, rfl, rfl, rfl, rfl, rfl, rfl, fun _ _ _ => rfl, fun _ _ _ => rfl, fun _ _ _ => rfl, fun _ _ _ => rfl⟩

/-- what the loading of a block is to end in -/
def BLoadEnds (w : World) (L : NdLay) (M : Nd) (c b r : Nat) (v : Value) (l : List UInt8) (k : Nat) (e : Ending) (w' : World) : Prop :=
  Only (fun x => L.S x ∨ x = r) w w' ∧
  ((∃ L' M' k', e = .returned (.int .i64 0) ∧ SameLay L L' ∧ NdAt true w' L' M' ∧ Rd w' r v l k' ∧ k ≤ k' ∧ l.take k' = l.take k ++ blockB M' c b ∧ BlkOnly c b M M' ∧ M'.erases c b < 4294967296 ∧ M'.next c b ≤ M.pgs ∧ (∀ p, p < M.pgs → M'.page c b p ≠ [] → p < M'.next c b) ∧ ∀ bd nx er pl suf, IsBlk M.siz M.pgs nx er pl → l.drop k = blkBytes bd nx er pl ++ suf → l.drop k' = suf)
   ∨ (NoBlk l k M.siz M.pgs ∧ (e = .returned (.int .i64 62) ∨ ∃ j, e = shortPanic j)))

/-- where the loading of a block stands -/
structure BLInv (w : World) (L : NdLay) (M : Nd) (c b r q : Nat) (v : Value) (l : List UInt8) (k B X E p kp : Nat) (L' : NdLay) (M5 : Nd) (wr : World) : Prop where
  lay : SameLay L L'
  nd : NdAt true wr L' M5
  bo : BlkOnly c b M M5
  bad : M5.bad c b = ((B : Int) == 1)
  next : M5.next c b = X
  era : M5.erases c b = E
  rest : ∀ p', p ≤ p' → M5.page c b p' = []
  low : ∀ p', p' < p → M5.page c b p' ≠ [] → p' < X
  rd : Rd wr r v l kp
  le : k ≤ kp
  tk : l.take kp = l.take k ++ leAll 1 [B, X] ++ leAll 4 [E] ++ pagesB M5 c b p
  left : Left l k M.siz M.pgs B X kp p
  geo : wr.heap[q]? = some (.cells #[.int .i64 M.mem, .int .i64 M.blk, .int .i64 M.pgs, .int .i64 M.siz] 29 (0, 0))
  only : Only (fun x => L.S x ∨ x = r) w wr
theorem pagesB_congr (M M' : Nd) (c b k : Nat) (h : ∀ p, p < k → M'.page c b p = M.page c b p) : pagesB M' c b k = pagesB M c b k := by
  induction k with
  | zero => rfl
  | succ k ih => rw [pagesB_succ, pagesB_succ, ih fun p hp => h p (by omega), h k (by omega)]
section
variable {w : World} {L : NdLay} {M : Nd} {c b r q : Nat} {v : Value} {l : List UInt8} {k B X E p kp : Nat} {L' : NdLay} {M5 : Nd} {wr : World}
/-- the reader alone turns -/
theorem BLInv.reads (h : BLInv w L M c b r q v l k B X E p kp L' M5 wr) {w' : World} (hrt : L.tag r = .none) (hO : Only (fun x => x = r) wr w') :
    NdAt true w' L' M5 ∧ Only (fun x => L.S x ∨ x = r) w w' :=
  ⟨h.nd.frame hO (fun x _ e => by rw [e, h.lay.tag]; exact hrt) (fun x _ e => by rw [e]; exact h.rd.noByte), h.only.trans hO fun _ _ h => .inr h⟩
/-- an erased page -/
theorem BLInv.stepN (h : BLInv w L M c b r q v l k B X E p kp L' M5 wr) {w' : World} (hrt : L.tag r = .none) (hqr : q ≠ r) (hp : p < M.pgs) (hk : kp + 1 ≤ l.length) (h0 : leNum ((l.drop kp).take 1) = 0) (hO : Only (fun x => x = r) wr w') (hr : Rd w' r v l (kp + 1)) :
    BLInv w L M c b r q v l k B X E (p + 1) (kp + 1) L' M5 w' := by
  obtain ⟨n1, n2⟩ := h.reads hrt hO
  have hpg := h.rest p (Nat.le_refl _)
  refine ⟨h.lay, n1, h.bo, h.bad, h.next, h.era, fun p' hp' => h.rest p' (by omega), fun p' hp' hne => ?_, hr, Nat.le_succ_of_le h.le, ?_, left_none h.left hp h0, hO.at h.geo hqr, n2⟩
  · by_cases e : p' = p
    · rw [e] at hne; exact absurd hpg hne
    · exact h.low p' (by omega) hne
  · rw [(read_byte (by omega)).1, h.tk, h0, pagesB_succ, hpg]
    simp [pageB, bitN, leAll]
theorem BLInv.done (h : BLInv w L M c b r q v l k B X E M.pgs kp L' M5 wr) (hB : B ≤ 1) (hE : E < 4294967296) : l.take kp = l.take k ++ blockB M5 c b := by
  have hb : bitN (M5.bad c b) = B := by
    rw [h.bad]
    rcases (by omega : B = 0 ∨ B = 1) with rfl | rfl <;> rfl
  rw [h.tk, blockB, hb, h.next, h.era, Nat.mod_eq_of_lt hE, h.bo.pgs]
  simp only [List.append_assoc]
/-- a page with its bytes -/
theorem BLInv.stepS (h : BLInv w L M c b r q v l k B X E p kp L' M5 wr) (hqr : q ≠ r) (hqt : L.tag q = .none) (hrt : L.tag r = .none) (hc : c ≤ M.mem) (hb : b < M.blk) (hp : p < M.pgs) (hX : p < X) (hk : kp + 1 + (M.siz + 64) ≤ l.length) (h0 : leNum ((l.drop kp).take 1) = 1)
    {w6 : World} {v1 v2 : Value} (hO : Only (fun x => x = r) wr w6) (hr : Rd w6 r v l (kp + 1 + M.siz + 64)) (h1 : RB w6 v1 ((l.drop (kp + 1)).take M.siz)) (h2 : RB w6 v2 ((l.drop (kp + 1 + M.siz)).take 64)) :
    ∃ L6 M6, BLInv w L M c b r q v l k B X E (p + 1) (kp + 1 + (M.siz + 64)) L6 M6 ((w6.setCell ⟨L.pb c b, p * 2, none⟩ v1).setCell ⟨L.pb c b, p * 2 + 1, none⟩ v2) := by
  obtain ⟨n1, n2⟩ := h.reads hrt hO
  have hsz := h.nd.ok.siz
  rw [h.bo.siz] at hsz
  obtain ⟨x, hx⟩ : ∃ x, x = (l.drop (kp + 1)).take (M.siz + 64) := ⟨_, rfl⟩
  have hxl : x.length = M.siz + 64 := by rw [hx]; simp; omega
  have hx1 : x.take M.siz = (l.drop (kp + 1)).take M.siz := by rw [hx, List.take_take, Nat.min_eq_left (by omega)]
  have hx2 : x.drop M.siz = (l.drop (kp + 1 + M.siz)).take 64 := by
    rw [hx, List.drop_take, List.drop_drop, show M.siz + 64 - M.siz = 64 by omega]
  have hne : x ≠ [] := fun e => by rw [e] at hxl; simp at hxl
  have hput := n1.putPg (c := c) (b := b) (p := p) (l := x) (v1 := v1) (v2 := v2) (by rw [h.bo.mem]; exact hc) (by rw [h.bo.blk]; exact hb) (by rw [h.bo.pgs]; exact hp) (by rw [h.bo.siz]; exact hxl) (by rw [h.bo.siz, hx1]; exact h1) (by rw [h.bo.siz, hx2]; exact h2)
  rw [h.lay.pb] at hput
  obtain ⟨L6, hL6, -, hN6⟩ := hput
  have hSg : L.S (L.pb c b) := by
    have := n1.Sg (c := c) (b := b) (by rw [h.bo.mem]; exact hc) (by rw [h.bo.blk]; exact hb)
    rw [h.lay.S, h.lay.pb] at this; exact this
  have hOS : Only L.S w6 ((w6.setCell ⟨L.pb c b, p * 2, none⟩ v1).setCell ⟨L.pb c b, p * 2 + 1, none⟩ v2) := ((Only.refl L.S w6).set ⟨L.pb c b, p * 2, none⟩ v1 (fun _ => hSg)).set ⟨L.pb c b, p * 2 + 1, none⟩ v2 (fun _ => hSg)
  have hnb : ∀ y, L.S y → NoByte w6 y := fun y hy => n1.noByte (by rw [h.lay.S]; exact hy)
  refine ⟨L6, { M5 with page := upd3 M5.page c b p x }, h.lay.trans hL6, hN6, ⟨h.bo.mem, h.bo.blk, h.bo.pgs, h.bo.siz, h.bo.gone, h.bo.evs, h.bo.ops, h.bo.off, fun y z hyz => ?_, h.bo.next, h.bo.erases, h.bo.bad⟩, h.bad, h.next, h.era, fun p' hp' => ?_, fun p' hp' hne' => ?_, ?_, by have := h.le; omega, ?_, left_some h.left hp h0, hOS.at (hO.at h.geo hqr) (NdLay.not_S' hqt), n2.trans hOS fun _ _ h => .inl h⟩
  · rw [← h.bo.page y z hyz]
    funext p'
    show upd3 M5.page c b p x y z p' = M5.page y z p'
    unfold upd3
    rw [if_neg (fun e => hyz ⟨e.1, e.2.1⟩)]
  · show upd3 M5.page c b p x c b p' = []
    unfold upd3
    rw [if_neg (by omega)]
    exact h.rest p' (by omega)
  · by_cases e : p' = p
    · omega
    · have hne' : upd3 M5.page c b p x c b p' ≠ [] := hne'
      unfold upd3 at hne'
      rw [if_neg (by omega)] at hne'
      exact h.low p' (by omega) hne'
  · refine ⟨hOS.at hr.cell (NdLay.not_S' hrt), hr.rb.only hOS (fun y _ hy => hnb y hy), by omega⟩
  · have hpg : ({ M5 with page := upd3 M5.page c b p x } : Nd).page c b p = x := upd3_same _ _ _ _ _
    rw [read_some (by omega), (read_byte (by omega)).1, h.tk, h0, pagesB_succ, hpg, pageB_cons x hne, ← hx, pagesB_congr M5 { M5 with page := upd3 M5.page c b p x } c b p (fun p' hp' => by
      show upd3 M5.page c b p x c b p' = _
      unfold upd3
      rw [if_neg (by omega)])]
    simp [leAll, leBytes]
end

set_option maxRecDepth 100000 in
set_option maxHeartbeats 6000000 in
theorem bload_calls {w : World} {L : NdLay} {M : Nd} (h : NdAt true w L M) (c b : Nat) (hc : c ≤ M.mem) (hb : b < M.blk) (hfresh : ∀ p, M.page c b p = []) (r : Nat) (v : Value) (l : List UInt8) (k : Nat) (hr : Rd w r v l k) (hrt : L.tag r = .none) (hl : l.length ≤ 100000000) :
    Calls Try.prog 66 #[.pointer (some ⟨L.cb c, b * 4, none⟩), ptrV r, .agg #[.int .i64 M.mem, .int .i64 M.blk, .int .i64 M.pgs, .int .i64 M.siz]] w (BLoadEnds w L M c b r v l k) := by
  have hno : NoBlk l k M.siz M.pgs → ∀ w' e, Only (fun x => L.S x ∨ x = r) w w' → (e = .returned (.int .i64 62) ∨ ∃ j, e = shortPanic j) → BLoadEnds w L M c b r v l k e w' := fun hn w' e hO he => ⟨hO, .inr ⟨hn, he⟩⟩
  have hyes : ∀ w' L' M' k', Only (fun x => L.S x ∨ x = r) w w' → SameLay L L' → NdAt true w' L' M' → Rd w' r v l k' → k ≤ k' → l.take k' = l.take k ++ blockB M' c b → BlkOnly c b M M' → M'.erases c b < 4294967296 → M'.next c b ≤ M.pgs → (∀ p, p < M.pgs → M'.page c b p ≠ [] → p < M'.next c b) → (∀ bd nx er pl suf, IsBlk M.siz M.pgs nx er pl → l.drop k = blkBytes bd nx er pl ++ suf → l.drop k' = suf) → BLoadEnds w L M c b r v l k (.returned (.int .i64 0)) w' := fun w' L' M' k' hO h1 h2 h3 h4 h5 h6 h7 h8 h9 h10 => ⟨hO, .inl ⟨L', M', k', rfl, h1, h2, h3, h4, h5, h6, h7, h8, h9, h10⟩⟩
  generalize BLoadEnds w L M c b r v l k = Post at hno hyes ⊢
  have HNO := Lib.hid hno
  have HYES := Lib.hid hyes
  clear hno hyes
  obtain ⟨q, hq⟩ : ∃ q, q = w.heap.size := ⟨_, rfl⟩
  have hal := (Below.refl w.heap.size w).alloc (Nat.le_refl _) (.cells #[.int .i64 M.mem, .int .i64 M.blk, .int .i64 M.pgs, .int .i64 M.siz] 29)
  have hQ : (w.alloc (.cells #[.int .i64 M.mem, .int .i64 M.blk, .int .i64 M.pgs, .int .i64 M.siz] 29)).heap[q]? = some (.cells #[.int .i64 M.mem, .int .i64 M.blk, .int .i64 M.pgs, .int .i64 M.siz] 29 (0, 0)) := heap_is hq
  generalize hw0 : w.alloc (.cells #[.int .i64 M.mem, .int .i64 M.blk, .int .i64 M.pgs, .int .i64 M.siz] 29) = w0 at hal hQ
  have HW := Lib.hid hw0
  clear hw0
  have hN0 := h.below hal
  have hr0 := hr.below hal
  have hO0 : Only (fun x => L.S x ∨ x = r) w w0 := Only.new hal _
  have hrq : r < q := by rw [hq]; exact heap_lt hr.cell
  have hqt : L.tag q = .none := by
    by_cases e : L.tag q = .none
    · exact e
    · exact absurd (h.lt q e) (by omega)
  have hrS : ¬ L.S r := NdLay.not_S' hrt
  have H0 := Lib.hid (⟨hN0, hr0, hO0, hrq, hqt, hrt, hfresh, hQ⟩ : _ ∧ _ ∧ _ ∧ _ ∧ _ ∧ _ ∧ _ ∧ _)
  clear h hr hal hN0 hr0 hO0 hfresh hQ
  have hsplit : ∀ (P : Prop), (¬ k + 1 ≤ l.length → P) → (k + 1 ≤ l.length → ¬ k + 1 + 1 ≤ l.length → P) → (k + 1 + 1 ≤ l.length → ¬ k + 1 + 1 + 4 ≤ l.length → P) → (k + 1 + 1 + 4 ≤ l.length → P) → P := fun P h1 h2 h3 h4 => by
    by_cases a1 : k + 1 ≤ l.length
    · by_cases a2 : k + 1 + 1 ≤ l.length
      · by_cases a3 : k + 1 + 1 + 4 ≤ l.length
        · exact h4 a3
        · exact h3 a2 a3
      · exact h2 a1 a2
    · exact h1 a1
  go_enter Try.func66, Try.ntmps66
  go_wp2_with fail
  rw [HW.out, ← hq]
  clear HW hq
  refine hsplit _ (fun a1 => ?_) (fun a1 a2 => ?_) (fun a2 a3 => ?_) (fun a3 => ?_)
  · have hnb : NoBlk l k M.siz M.pgs := noBlk_short (by omega)
    refine (rU8_short r k v l w0 H0.out.2.1 (by omega)).mono ?_
    rintro e w1 ⟨rfl, hb1⟩
    have HX := Lib.hid (HNO.out hnb w1 _ (H0.out.2.2.1.trans (Only.new hb1 fun _ => False) fun _ _ h => h.elim) (.inr ⟨k, rfl⟩))
    clear hnb
    go_wp2_with fail
    ((try simp only [Exit.inBlock, Exit.then]); exact ⟨rfl, HX.out⟩)
  · have hnb : NoBlk l k M.siz M.pgs := noBlk_short (by omega)
    refine (rU8_ok r k v l w0 H0.out.2.1 (by omega)).mono ?_
    rintro e w1 ⟨rfl, hr1, hO1⟩
    have hO := H0.out.2.2.1.trans hO1 fun _ _ h => .inr h
    go_wp2_with fail
    refine (rU8_short r (k + 1) v l w1 hr1 (by omega)).mono ?_
    rintro e w2 ⟨rfl, hb2⟩
    have HX := Lib.hid (HNO.out hnb w2 _ (hO.trans (Only.new hb2 fun _ => False) fun _ _ h => h.elim) (.inr ⟨k + 1, rfl⟩))
    clear hnb
    go_wp2_with fail
    ((try simp only [Exit.inBlock, Exit.then]); exact ⟨rfl, HX.out⟩)
  · have hnb : NoBlk l k M.siz M.pgs := noBlk_short (by omega)
    refine (rU8_ok r k v l w0 H0.out.2.1 (by omega)).mono ?_
    rintro e w1 ⟨rfl, hr1, hO1⟩
    have hO := H0.out.2.2.1.trans hO1 fun _ _ h => .inr h
    go_wp2_with fail
    refine (rU8_ok r (k + 1) v l w1 hr1 a2).mono ?_
    rintro e w2 ⟨rfl, hr2, hO2⟩
    have hO' := hO.trans hO2 fun _ _ h => .inr h
    go_wp2_with fail
    refine (rU32_short r (k + 1 + 1) v l w2 hr2 (by omega)).mono ?_
    rintro e w3 ⟨rfl, hb3⟩
    have HX := Lib.hid (HNO.out hnb w3 _ (hO'.trans (Only.new hb3 fun _ => False) fun _ _ h => h.elim) (.inr ⟨k + 1 + 1, rfl⟩))
    clear hnb
    go_wp2_with fail
    ((try simp only [Exit.inBlock, Exit.then]); exact ⟨rfl, HX.out⟩)
  · refine (rU8_ok r k v l w0 H0.out.2.1 (by omega)).mono ?_
    rintro e w1 ⟨rfl, hr1, hO1⟩
    have hO := H0.out.2.2.1.trans hO1 fun _ _ h => .inr h
    obtain ⟨hB1, hB2⟩ := read_byte (l := l) (k := k) (by omega)
    obtain ⟨hX1, hX2⟩ := read_byte (l := l) (k := k + 1) (by omega)
    obtain ⟨hE1, hE2⟩ := read_word (l := l) (k := k + 1 + 1) (by omega)
    have hpgs := H0.out.1.ok.pgs
    have hleft := left_head (l := l) (k := k) (siz := M.siz) (pgs := M.pgs) (by omega) (by omega)
    generalize leNum ((l.drop k).take 1) = B at hB1 hB2 hleft ⊢
    go_wp2_with fail
    refine (rU8_ok r (k + 1) v l w1 hr1 (by omega)).mono ?_
    rintro e w2 ⟨rfl, hr2, hO2⟩
    have hO' := hO.trans hO2 fun _ _ h => .inr h
    generalize leNum ((l.drop (k + 1)).take 1) = X at hX1 hX2 hleft ⊢
    go_wp2_with fail
    refine (rU32_ok r (k + 1 + 1) v l w2 hr2 (by omega)).mono ?_
    rintro e w3 ⟨rfl, hr3, hO3⟩
    have hO3' := hO'.trans hO3 fun _ _ h => .inr h
    have hOr : Only (fun x => x = r) w0 w3 := (hO1.trans hO2 fun _ _ h => h).trans hO3 fun _ _ h => h
    generalize leNum ((l.drop (k + 1 + 1)).take 4) = E at hE1 hE2 ⊢
    have htk : l.take (k + 6) = l.take k ++ leAll 1 [B, X] ++ leAll 4 [E] := by
      rw [show k + 6 = k + 1 + 1 + 4 by omega, hE1, hX1, hB1]
      simp [leAll]
    obtain ⟨hN0, hr0, -, hrq, hqt, hrt, hfresh, hQ⟩ := H0.out
    have hN3 := hN0.frame hOr (fun x _ e => by rw [e]; exact hrt) (fun x _ e => by rw [e]; exact hr0.noByte)
    have hQ3 := hOr.at hQ (by omega)
    have hop := hN0.ok.ops
    have n1 := hN3.setBad (c := c) (b := b) hc hb ((B : Int) == 1)
    have n2 := n1.setNext (c := c) (b := b) hc hb X (by omega)
    have n3 := n2.setErases (c := c) (b := b) hc hb E (by show E ≤ 4294967295 + M.ops; omega)
    have hrow := hN3.blk c hc
    have c0 := hrow.cell (o := b * 4) (by omega)
    have c1 := hrow.cell (o := b * 4 + 1) (by omega)
    have c2 := hrow.cell (o := b * 4 + 2) (by omega)
    have c3 := hrow.cell (o := b * 4 + 3) (by omega)
    have f1 := hrow.froz (b * 4 + 1)
    have f2 := hrow.froz (b * 4 + 2)
    have f3 := hrow.froz (b * 4 + 3)
    rw [blkCells0] at c0
    rw [blkCells1] at c1
    rw [blkCells2] at c2
    rw [blkCells3] at c3
    have hlcb := cell_lt c3
    have hSb : L.S (L.cb c) := hN3.Sb hc
    have hO4 := ((hO3'.set ⟨L.cb c, b * 4 + 3, none⟩ (.bool ((B : Int) == 1)) (fun _ => .inl hSb)).set ⟨L.cb c, b * 4 + 1, none⟩ (.int .i64 X) (fun _ => .inl hSb)).set ⟨L.cb c, b * 4 + 2, none⟩ (.int .i64 E) (fun _ => .inl hSb)
    have hOS : Only L.S w3 (((w3.setCell ⟨L.cb c, b * 4 + 3, none⟩ (.bool ((B : Int) == 1))).setCell ⟨L.cb c, b * 4 + 1, none⟩ (.int .i64 X)).setCell ⟨L.cb c, b * 4 + 2, none⟩ (.int .i64 E)) := (((Only.refl L.S w3).set ⟨L.cb c, b * 4 + 3, none⟩ (.bool ((B : Int) == 1)) (fun _ => hSb)).set ⟨L.cb c, b * 4 + 1, none⟩ (.int .i64 X) (fun _ => hSb)).set ⟨L.cb c, b * 4 + 2, none⟩ (.int .i64 E) (fun _ => hSb)
    have hr4 : Rd (((w3.setCell ⟨L.cb c, b * 4 + 3, none⟩ (.bool ((B : Int) == 1))).setCell ⟨L.cb c, b * 4 + 1, none⟩ (.int .i64 X)).setCell ⟨L.cb c, b * 4 + 2, none⟩ (.int .i64 E)) r v l (k + 6) := ⟨hOS.at hr3.cell hrS, hr3.rb.only hOS (fun x _ hx => hN3.noByte hx), by omega⟩
    have hQ4 := hOS.at hQ3 (NdLay.not_S' hqt)
    obtain ⟨M4, hM4⟩ : ∃ M4 : Nd, M4 = { ({ ({ M with bad := upd2 M.bad c b ((B : Int) == 1) } : Nd) with next := upd2 M.next c b X } : Nd) with erases := upd2 M.erases c b E } := ⟨_, rfl⟩
    have n4 : NdAt true (((w3.setCell ⟨L.cb c, b * 4 + 3, none⟩ (.bool ((B : Int) == 1))).setCell ⟨L.cb c, b * 4 + 1, none⟩ (.int .i64 X)).setCell ⟨L.cb c, b * 4 + 2, none⟩ (.int .i64 E)) L M4 := n3.congr hM4.symm
    have hbo : BlkOnly c b M M4 := by
      rw [hM4]
      exact ⟨rfl, rfl, rfl, rfl, rfl, rfl, rfl, rfl, fun _ _ _ => rfl, fun x y h => if_neg h, fun x y h => if_neg h, fun x y h => if_neg h⟩
    have hM4b : M4.bad c b = ((B : Int) == 1) := by rw [hM4]; exact upd2_same _ _ _ _
    have hM4n : M4.next c b = X := by rw [hM4]; exact upd2_same _ _ _ _
    have hM4e : M4.erases c b = E := by rw [hM4]; exact upd2_same _ _ _ _
    have hM4p : ∀ p, M4.page c b p = [] := fun p => by rw [hM4]; exact hfresh p
    have H4 := Lib.hid (⟨hO4, hr4, hQ4, n4, hbo, hM4b, hM4n, hM4e, hM4p, hleft, htk, hE2, hrt, hqt⟩ : _ ∧ _ ∧ _ ∧ _ ∧ _ ∧ _ ∧ _ ∧ _ ∧ _ ∧ _ ∧ _ ∧ _ ∧ _ ∧ _)
    clear H0 hO4 hr4 hQ4 n4 hbo hM4b hM4n hM4e hM4p hleft htk hM4 hOS n1 n2 n3 hrow hQ3 hN3 hOr hO3' hr3 hO hO' hO1 hO2 hO3 hr1 hr2 hfresh hQ hN0 hr0 hE1 hB1 hX1 hsplit
    go_wp2_with fail
    obtain ⟨hO4, hr4, hQ4, n4, hbo, hM4b, hM4n, hM4e, hM4p, hleft, htk, hE2', hrt', hqt'⟩ := H4.out
    generalize ((w3.setCell ⟨L.cb c, b * 4 + 3, none⟩ (.bool ((B : Int) == 1))).setCell ⟨L.cb c, b * 4 + 1, none⟩ (.int .i64 X)).setCell ⟨L.cb c, b * 4 + 2, none⟩ (.int .i64 E) = w4 at hO4 hr4 hQ4 n4 ⊢
    have hinv : BLInv w L M c b r q v l k B X E 0 (k + 6) L M4 w4 := ⟨SameLay.refl L, n4, hbo, hM4b, hM4n, hM4e, fun p' _ => hM4p p', fun p' hp' => by omega, hr4, by omega, by rw [htk]; simp [pagesB], hleft, hQ4, hO4⟩
    clear hO4 hr4 hQ4 n4 hbo hM4b hM4n hM4e hM4p hleft htk hE2' hrt' hqt' H4 c0 c1 c2 c3 f1 f2 f3 hlcb
    go_loopw [36] (fun i wr => ∃ (p kp : Nat) (L' : NdLay) (M5 : Nd), p ≤ M.pgs ∧ i = .int .i64 p ∧ BLInv w L M c b r q v l k B X E p kp L' M5 wr) (fun i _ => M.pgs - (intOf i).toNat)
    case atStart => exact ⟨0, _, _, _, Nat.zero_le _, rfl, hinv⟩
    case round =>
      clear hinv
      obtain ⟨p, kp, L', M5, hp, rfl, hinv⟩ := hrel
      by_cases hplt : p < M.pgs
      · have hplt' : (p : Int) < (M.pgs : Int) := by omega
        have hrd := hinv.rd
        have HI := Lib.hid (⟨hinv, hplt⟩ : _ ∧ _)
        clear hinv
        by_cases a1 : kp + 1 ≤ l.length
        · have hT1 := (read_byte (l := l) (k := kp) (by omega)).2
          have hrU := rU8_ok r kp v l wr hrd a1
          obtain ⟨T, hT⟩ : ∃ T, T = leNum ((l.drop kp).take 1) := ⟨_, rfl⟩
          rw [← hT] at hrU hT1
          have HTT := Lib.hid hT
          have HRU := Lib.hid hrU
          clear hT hrU hrd
          by_cases t1 : 1 < T
          · have hnb := left_flag HI.out.1.left hplt (by rw [← HTT.out]; exact t1)
            go_wp2_with fail
            refine HRU.out.mono ?_
            rintro e w5 ⟨rfl, hr5, hO5⟩
            have HX := Lib.hid (HNO.out hnb w5 _ (HI.out.1.only.trans hO5 fun _ _ h => .inr h) (.inl rfl))
            clear hr5 hO5 hnb
            go_wp2_with fail
            exact HX.out
          · by_cases t0 : T = 0
            · subst t0
              go_wp2_with fail
              refine HRU.out.mono ?_
              rintro e w5 ⟨rfl, hr5, hO5⟩
              have hnx := HI.out.1.stepN hrt (by omega) hplt a1 HTT.out.symm hO5 hr5
              have HX := Lib.hid hnx
              clear hr5 hO5 hnx
              go_wp2_with fail
              go_roundw
              case rel => exact ⟨p + 1, kp + 1, L', M5, HI.out.2, by go_num, HX.out⟩
              case measure => simp [intOf]; omega
            · obtain rfl : T = 1 := by omega
              by_cases hpX : p < X
              · go_wp2_with fail
                refine HRU.out.mono ?_
                rintro e w5 ⟨rfl, hr5, hO5⟩
                obtain ⟨hN5, hOw5⟩ := HI.out.1.reads hrt hO5
                have hr5d : Rd w5.drew r v l (kp + 1) := hr5.below (Below.refl _ _).drew
                have hQ5 := hO5.at HI.out.1.geo (show ¬ q = r by omega)
                have hlay := HI.out.1.lay
                have hbo := HI.out.1.bo
                have c0 := (hN5.blk c (by rw [hbo.mem]; exact hc)).cell (o := b * 4) (by rw [hbo.blk]; omega)
                rw [blkCells0, hlay.cb, hlay.pb, hlay.pc, hbo.pgs] at c0
                have hcr : ¬ L.cb c = r := fun e => by rw [e] at hSb; exact hrS hSb
                have d0 : ∀ w', Only (fun x => x = r) w5 w' → w'.cell? ⟨L.cb c, b * 4, none⟩ = some (.slice (some ⟨L.pb c b, 0, none⟩) M.pgs (L.pc c b)) := fun w' h => h.cell c0 hcr
                have d3 : ∀ w', Only (fun x => x = r) w5 w' → w'.cell? ⟨q, 3, none⟩ = some (.int .i64 M.siz) := fun w' h => cells_at (h.at hQ5 (show ¬ q = r by omega)) 3 _ rfl
                clear c0 hQ5 hN5 hr5 hlay hbo
                go_wp2_with fail
                by_cases b1 : kp + 1 + M.siz ≤ l.length
                · by_cases a2 : kp + 1 + (M.siz + 64) ≤ l.length
                  · (refine wp_region_mix [0, 1, 2, 3, 4, 5, 6, 7, 9, 8, 10, 11, 12, 13] [(true, true), (true, true), (true, true), (true, false), (true, true), (true, true), (true, true), (true, false), (true, true), (false, true), (false, true), (true, true), (true, true), (false, false)] [0, 1, 3, 7, 0, 0, 0, 64, 224, 0, 992, 2016, 4095, 8191] (fun w' => Only (fun x => x = r) w5 w') (by kernel_rfl) (by kernel_rfl) ?_ ?_; rotate_left; simp only [pickL, List.map_cons, List.map_nil, List.getD_cons_succ, List.getD_cons_zero])
                    rotate_left
                    focus exact Only.of_drew _ _
                    (repeat (first | (refine mix_pure (fun hne K hK => ?_); go_simp; refine hK _ ?_; clear hK K hne) | (refine mix_load ?_ (fun K hK => ?_); (focus (first | rfl | (go_simp; done))); apply Exists.intro; apply And.intro; (focus (intro w' hC; go_simp; exact rfl)); go_simp; refine hK _ ?_; clear hK K) | (refine mix_skip ?_ (fun K hK => ?_); (focus (first | rfl | (go_simp; done))); go_simp; refine hK _ ?_; clear hK K)))
                    (refine mix_one (by first | rfl | (go_simp; done)) (fun R hR hX => ?_))
                    go_wp2_with fail
                    refine (rRaw_ok r (kp + 1) M.siz v l w5.drew hr5d (by omega) hl).mono ?_
                    rintro e w6 ⟨x1, rfl, hx1, hr6, hO6⟩
                    obtain ⟨y1, z1, rfl⟩ := own_slice hx1
                    have hC6 : Only (fun x => x = r) w5 w6 := (Only.of_drew _ _).trans hO6 fun _ _ h => h
                    go_wp2_with fail
                    refine hR _ _ rfl ⟨_, hC6, (fun _ => rfl), ?_⟩
                    clear hR hX R
                    (refine mix_one (by first | rfl | (go_simp; done)) (fun R hR hX => ?_))
                    go_wp2_with fail
                    refine (rRaw_ok r (kp + 1 + M.siz) 64 v l w6 hr6 (by omega) hl).mono ?_
                    rintro e w7 ⟨x2, rfl, hx2, hr7, hO7⟩
                    obtain ⟨y2, z2, rfl⟩ := own_slice hx2
                    have hC7 : Only (fun x => x = r) w5 w7 := hC6.trans hO7 fun _ _ h => h
                    go_wp2_with fail
                    refine hR _ _ rfl ⟨_, hC7, (fun _ => rfl), ?_⟩
                    clear hR hX R
                    (repeat (first | (refine mix_pure (fun hne K hK => ?_); go_simp; refine hK _ ?_; clear hK K hne) | (refine mix_load ?_ (fun K hK => ?_); (focus (first | rfl | (go_simp; done))); apply Exists.intro; apply And.intro; (focus (intro w' hC; go_simp; exact rfl)); go_simp; refine hK _ ?_; clear hK K) | (refine mix_skip ?_ (fun K hK => ?_); (focus (first | rfl | (go_simp; done))); go_simp; refine hK _ ?_; clear hK K)))
                    (refine mix_one (by first | rfl | (go_simp; done)) (fun R hR hX => ?_))
                    have hv1 : RB w7 (.slice y1 M.siz z1) ((l.drop (kp + 1)).take M.siz) := (show RB w6 (.slice y1 M.siz z1) ((l.drop (kp + 1)).take M.siz) from RV.own hx1).only hO7 (fun y _ e => by rw [e]; exact hr6.noByte)
                    have hv2 : RB w7 (.slice y2 64 z2) ((l.drop (kp + 1 + M.siz)).take 64) := RV.own hx2
                    obtain ⟨L6, M6, hinv6⟩ := HI.out.1.stepS (by omega) hqt hrt hc hb hplt hpX a2 HTT.out.symm (hO5.trans hC7 fun _ _ h => h) hr7 hv1 hv2
                    have hN7 := (HI.out.1.reads hrt (hO5.trans hC7 fun _ _ h => h)).1
                    have hrow7 := hN7.pgs c b (by rw [HI.out.1.bo.mem]; exact hc) (by rw [HI.out.1.bo.blk]; exact hb)
                    have g0 := hrow7.cell (o := p * 2) (by rw [HI.out.1.bo.pgs]; show p * 2 < M.pgs * 2; omega)
                    have g1 := hrow7.cell (o := p * 2 + 1) (by rw [HI.out.1.bo.pgs]; show p * 2 + 1 < M.pgs * 2; omega)
                    have gf := hrow7.froz
                    rw [HI.out.1.lay.pb] at g0 g1 gf
                    have hlg7 := cell_lt g0
                    have HX := Lib.hid hinv6
                    clear hinv6 hN7 hrow7 hv1 hv2 hx1 hx2 hr6 hr7 hO6 hO7 hC6 hC7 hr5d hOw5
                    go_wp2_with fail
                    ((try simp only [wpList]); refine hR _ _ rfl ⟨fun w' => w' = _, rfl, (fun h => by cases h), ?_⟩; clear hR hX R)
                    refine mix_done ?_
                    clear d0 d3 g0 g1 gf
                    go_wp2_with fail
                    go_roundw
                    case rel => exact ⟨p + 1, kp + 1 + (M.siz + 64), L6, M6, HI.out.2, by go_num, HX.out⟩
                    case measure => have := HI.out.2; simp [intOf]; omega
                  · have hnb := left_cut HI.out.1.left hplt HTT.out.symm a2
                    (refine wp_region_mix [0, 1, 2, 3, 4, 5, 6, 7, 9, 8, 10, 11, 12, 13] [(true, true), (true, true), (true, true), (true, false), (true, true), (true, true), (true, true), (true, false), (true, true), (false, true), (false, true), (true, true), (true, true), (false, false)] [0, 1, 3, 7, 0, 0, 0, 64, 224, 0, 992, 2016, 4095, 8191] (fun w' => Only (fun x => x = r) w5 w') (by kernel_rfl) (by kernel_rfl) ?_ ?_; rotate_left; simp only [pickL, List.map_cons, List.map_nil, List.getD_cons_succ, List.getD_cons_zero])
                    rotate_left
                    focus exact Only.of_drew _ _
                    (repeat (first | (refine mix_pure (fun hne K hK => ?_); go_simp; refine hK _ ?_; clear hK K hne) | (refine mix_load ?_ (fun K hK => ?_); (focus (first | rfl | (go_simp; done))); apply Exists.intro; apply And.intro; (focus (intro w' hC; go_simp; exact rfl)); go_simp; refine hK _ ?_; clear hK K) | (refine mix_skip ?_ (fun K hK => ?_); (focus (first | rfl | (go_simp; done))); go_simp; refine hK _ ?_; clear hK K)))
                    (refine mix_one (by first | rfl | (go_simp; done)) (fun R hR hX => ?_))
                    go_wp2_with fail
                    refine (rRaw_ok r (kp + 1) M.siz v l w5.drew hr5d (by omega) hl).mono ?_
                    rintro e w6 ⟨x1, rfl, hx1, hr6, hO6⟩
                    obtain ⟨y1, z1, rfl⟩ := own_slice hx1
                    have hC6 : Only (fun x => x = r) w5 w6 := (Only.of_drew _ _).trans hO6 fun _ _ h => h
                    go_wp2_with fail
                    refine hR _ _ rfl ⟨_, hC6, (fun _ => rfl), ?_⟩
                    clear hR hX R
                    (refine mix_one (by first | rfl | (go_simp; done)) (fun R hR hX => ?_))
                    go_wp2_with fail
                    refine (rRaw_short r (kp + 1 + M.siz) 64 v l w6 hr6 (by omega)).mono ?_
                    rintro e w7 ⟨rfl, hb7⟩
                    have HX := Lib.hid (HNO.out hnb w7 _ ((hOw5.trans hC6 fun _ _ h => .inr h).trans (Only.new hb7 fun _ => False) fun _ _ h => h.elim) (.inr ⟨kp + 1 + M.siz, rfl⟩))
                    go_wp2_with fail
                    refine hX _ _ _ (by simp) (fun a'' ha'' => ?_)
                    ((try simp only [Exit.inBlock, Exit.then]); exact ⟨ha'', HX.out⟩)
                · have hnb := left_cut HI.out.1.left hplt HTT.out.symm (by omega)
                  (refine wp_region_mix [0, 1, 2, 3, 4, 5, 6, 7, 9, 8, 10, 11, 12, 13] [(true, true), (true, true), (true, true), (true, false), (true, true), (true, true), (true, true), (true, false), (true, true), (false, true), (false, true), (true, true), (true, true), (false, false)] [0, 1, 3, 7, 0, 0, 0, 64, 224, 0, 992, 2016, 4095, 8191] (fun w' => Only (fun x => x = r) w5 w') (by kernel_rfl) (by kernel_rfl) ?_ ?_; rotate_left; simp only [pickL, List.map_cons, List.map_nil, List.getD_cons_succ, List.getD_cons_zero])
                  rotate_left
                  focus exact Only.of_drew _ _
                  (repeat (first | (refine mix_pure (fun hne K hK => ?_); go_simp; refine hK _ ?_; clear hK K hne) | (refine mix_load ?_ (fun K hK => ?_); (focus (first | rfl | (go_simp; done))); apply Exists.intro; apply And.intro; (focus (intro w' hC; go_simp; exact rfl)); go_simp; refine hK _ ?_; clear hK K) | (refine mix_skip ?_ (fun K hK => ?_); (focus (first | rfl | (go_simp; done))); go_simp; refine hK _ ?_; clear hK K)))
                  (refine mix_one (by first | rfl | (go_simp; done)) (fun R hR hX => ?_))
                  go_wp2_with fail
                  refine (rRaw_short r (kp + 1) M.siz v l w5.drew hr5d (by omega)).mono ?_
                  rintro e w6 ⟨rfl, hb6⟩
                  have HX := Lib.hid (HNO.out hnb w6 _ (hOw5.drew.trans (Only.new hb6 fun _ => False) fun _ _ h => h.elim) (.inr ⟨kp + 1, rfl⟩))
                  go_wp2_with fail
                  refine hX _ _ _ (by simp) (fun a'' ha'' => ?_)
                  ((try simp only [Exit.inBlock, Exit.then]); exact ⟨ha'', HX.out⟩)
              · have hnb := left_late HI.out.1.left hplt HTT.out.symm hpX
                have hXp : X ≤ p := by omega
                go_wp2_with fail
                refine HRU.out.mono ?_
                rintro e w5 ⟨rfl, hr5, hO5⟩
                have HXX := Lib.hid (HNO.out hnb w5 _ (HI.out.1.only.trans hO5 fun _ _ h => .inr h) (.inl rfl))
                clear hr5 hO5 hnb
                go_wp2_with fail
                exact HXX.out
        · have hnb := left_short HI.out.1.left hplt (by omega)
          have hrU := rU8_short r kp v l wr hrd (by omega)
          have HRU := Lib.hid hrU
          clear hrU hrd
          go_wp2_with fail
          refine HRU.out.mono ?_
          rintro e w5 ⟨rfl, hb5⟩
          have HX := Lib.hid (HNO.out hnb w5 _ (HI.out.1.only.trans (Only.new hb5 fun _ => False) fun _ _ h => h.elim) (.inr ⟨kp, rfl⟩))
          clear hb5 hnb
          go_wp2_with fail
          ((try simp only [Exit.inBlock, Exit.then]); exact ⟨rfl, HX.out⟩)
      · obtain rfl : p = M.pgs := by omega
        have g2 := cells_at hinv.geo 2 _ rfl
        simp only [List.getElem_toArray, List.getElem_cons_succ, List.getElem_cons_zero] at g2
        have hlg := cell_lt g2
        by_cases hB : 1 < B
        · have HX := Lib.hid (HNO.out (left_bad hinv.left hB) wr _ hinv.only (.inl rfl))
          clear hinv
          go_wp2_with fail
          exact HX.out
        · by_cases hX : M.pgs < X
          · have HX := Lib.hid (HNO.out (left_next hinv.left hX) wr _ hinv.only (.inl rfl))
            clear hinv
            go_wp2_with fail
            exact HX.out
          · have HX := Lib.hid (HYES.out wr L' M5 kp hinv.only hinv.lay hinv.nd hinv.rd hinv.le (hinv.done (by omega) hE2) hinv.bo (by rw [hinv.era]; exact hE2) (by rw [hinv.next]; omega) (fun p hp hne => by rw [hinv.next]; exact hinv.low p hp hne) (fun bd nx er pl suf h1 h2 => left_end hinv.left h1 h2))
            have hX' : X ≤ M.pgs := by omega
            clear hinv
            go_wp2_with fail
            exact HX.out
end Go.Proofs.Ytphnjiokihbhnaa
