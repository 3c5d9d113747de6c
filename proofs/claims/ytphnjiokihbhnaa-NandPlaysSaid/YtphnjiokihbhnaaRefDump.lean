/- gabionref04: chips as bytes. -/
--only r2
import Derived.Test.YtphnjiokihbhnaaRefRead
import Derived.Test.YtphnjiokihbhnaaDumpKit
import Derived.Test.YtphnjiokihbhnaaR2
namespace Go.Proofs.Ytphnjiokihbhnaa
set_option linter.unusedVariables false
set_option linter.unusedSimpArgs false
open Go.RowKit

/-- bytes that a call lays in a row of its own -/
structure RS (w0 w : World) (v : Value) (l : List UInt8) : Prop where
  own : w.ownsRow w0.heap.size 5 1 v l.length (l.map u8v)
  bel : Below w0.heap.size w0 w
theorem RS.empty {w0 w : World} (h : Below w0.heap.size w0 w) : RS w0 w (.slice none 0 0) [] := ⟨World.ownsRow_nil _ _ _ _, h⟩
theorem RS.keep {w0 w w' : World} {v : Value} {l : List UInt8} (h : RS w0 w v l) (hb : Below w.heap.size w w') : RS w0 w' v l :=
  ⟨own_only h.own (Only.new hb fun _ => False) (fun _ _ => id), h.bel.trans (hb.mono h.bel.size)⟩
theorem RS.slice {w0 w : World} {v : Value} {l : List UInt8} (h : RS w0 w v l) : ∃ a k, v = .slice a l.length k := own_slice h.own
/-- a block that an append onto the row does not turn -/
def Off (b : Nat) (o : Obj) (v : Value) (w : World) : Prop := w.heap[b]? = some o ∧ v.ownBlock ≠ some b
theorem Off.keep {b : Nat} {o : Obj} {v : Value} {w w' : World} (h : Off b o v w) (hb : Below w.heap.size w w') : Off b o v w' := ⟨heap_keep hb h.1, h.2⟩
theorem RS.off {w0 w : World} {v : Value} {l : List UInt8} (h : RS w0 w v l) {b : Nat} (hb : w.heap.size ≤ b) : v.ownBlock ≠ some b := fun e => by have := (h.own.lt b e).2; omega

theorem wpList_app {w0 w : World} {v : Value} {l : List UInt8} {ops : Array Oper} {rest : List Oper} {o : Oper} {a : Act} {Q : Exit → Act → World → Prop} (hgd : o.guard = none) (s x : Operand)
    (ho : o.op = .call { callee := .builtin .append, args := #[s, x], argTypes := #[31, 31] })
    (hs : a.eval s = v) (h0 : RS w0 w v l) (y : Value) (m : List UInt8) (hx : a.eval x = y) (hy : RB w y m) (hlen : l.length + m.length ≤ 1000000000)
    (h : ∀ v' w', RS w0 w' v' (l ++ m) → (∀ b o, Off b o v w → Off b o v' w') → wpList Try.prog ops Q rest (a.put o.dst v') w') : wpList Try.prog ops Q (o :: rest) a w := by
  obtain ⟨i, hi, hz0, hz1, hz2⟩ := info_parts infoU8
  refine wpList_append_row hgd s x 31 ho w0.heap.size 5 i (.int .u8 0) 1 Try.underlying31 hi hz0 hz1 hz2 rfl v l.length (l.map u8v) hs h0.own y (m.map u8v) hx hy (oneCell_u8 _) ?_ ?_ h0.bel.size ?_
  · rw [List.length_map]; unfold maxLen; omega
  · rw [List.length_map]; omega
  · intro v' w' hown hg hrow
    rw [List.length_map] at hown
    refine h v' w' ⟨by rw [List.length_append, List.map_append]; exact hown, below_pushed h0.bel h0.own hg h0.bel.size (Nat.le_refl _)⟩ fun b ob hb => ⟨(Only.of_grown hg).at hb.1 hb.2, fun e => ?_⟩
    rcases hrow b e with h1 | h1
    · exact hb.2 h1
    · have := heap_lt hb.1; omega
theorem le_mod (e : Nat) : leBytes 4 e = leAll 4 [e % 4294967296] := by
  have h0 : e % 256 = e % 4294967296 % 256 := by omega
  have h1 : e / 256 % 256 = e % 4294967296 / 256 % 256 := by omega
  have h2 : e / 256 / 256 % 256 = e % 4294967296 / 256 / 256 % 256 := by omega
  have h3 : e / 256 / 256 / 256 % 256 = e % 4294967296 / 256 / 256 / 256 % 256 := by omega
  simp only [leAll, List.flatMap_cons, List.flatMap_nil, List.append_nil, leBytes]
  rw [h0, h1, h2, h3]
theorem le_one (b n : Nat) : leBytes b n = leAll b [n] := by simp [leAll]
theorem bit_byte (x : Bool) : Value.int .u8 (bitN x : Int) = u8v (UInt8.ofNat (bitN x % 256)) := by cases x <;> rfl
theorem RB.bit {w : World} {b t : Nat} {fz : Nat × Nat} (x : Bool) (h : w.heap[b]? = some (.cells #[.int .u8 (bitN x : Int)] t fz)) : RB w (.slice (some ⟨b, 0, none⟩) 1 1) (leAll 1 [bitN x]) := by
  rw [bit_byte] at h
  exact RB.block (l := [UInt8.ofNat (bitN x % 256)]) h rfl (Nat.le_refl _) (by unfold maxLen; omega)

theorem RB.bits2 {w : World} {b t : Nat} {fz : Nat × Nat} (x : Bool) (n : Nat) (hn : n ≤ 255) (h : w.heap[b]? = some (.cells #[.int .u8 (bitN x : Int), .int .u8 (n : Int)] t fz)) : RB w (.slice (some ⟨b, 0, none⟩) 2 2) (leAll 1 [bitN x, n]) := by
  have hv : Value.int .u8 (n : Int) = u8v (UInt8.ofNat (n % 256)) := by
    show _ = Value.int .u8 ((UInt8.ofNat (n % 256)).toNat : Int)
    rw [u8_mod, Nat.mod_eq_of_lt (by omega)]
  rw [bit_byte, hv] at h
  exact RB.block (l := [UInt8.ofNat (bitN x % 256), UInt8.ofNat (n % 256)]) h rfl (Nat.le_refl _) (by unfold maxLen; omega)

set_option maxRecDepth 100000 in
set_option maxHeartbeats 6000000 in
theorem rdump_calls {w : World} {L : NdLay} {M : Nd} (h : NdAt false w L M) :
    Calls Try.prog 25 #[ptrV L.p] w fun e w' => ∃ x, e = .returned x ∧ w'.ownsRow w.heap.size 5 1 x (dumpB M).length ((dumpB M).map u8v) ∧ Below w.heap.size w w' := by
  obtain ⟨hm1, hm2⟩ := h.ok.mem
  obtain ⟨hb1, hb2⟩ := h.ok.blk
  obtain ⟨hp1, hp2⟩ := h.ok.pgs
  obtain ⟨hs1, hs2⟩ := h.ok.siz
  have htop : ∀ w', Below w.heap.size w w' → w'.heap[L.p]? = some (.cells #[.int .i64 M.mem, .int .i64 M.blk, .int .i64 M.pgs, .int .i64 M.siz, .slice (some ⟨L.cs, 0, none⟩) (M.mem + 1) L.cc, .slice (some ⟨L.dd, 0, none⟩) (M.mem + 1) L.dc, .slice L.ea M.evs.length L.ec, .int .i64 M.ops, .bool M.off] 61 (0, 0)) := fun w' hb => by
    have := (h.below hb).top
    simpa only [topCells, Bool.false_eq_true, if_false] using this
  have HT := Lib.hid htop
  have HN := Lib.hid h
  clear h htop
  have hR := RS.empty (Below.refl w.heap.size w)
  have hT := HT.out w hR.bel
  have t0 := cells_at hT 0 _ rfl
  have t1 := cells_at hT 1 _ rfl
  have t2 := cells_at hT 2 _ rfl
  have t3 := cells_at hT 3 _ rfl
  have hlT := heap_lt hT
  clear hT
  clear t0 t1 t2 t3 hlT
  obtain ⟨l0, hl0⟩ : ∃ l : List UInt8, l = [] := ⟨_, rfl⟩
  have hll0 : l0.length = 0 := by rw [hl0]; rfl
  go_enter Try.func25, Try.ntmps25
  go_wp2_with fail
  refine (bytes_calls 4 1312964935 w (by omega) (by omega)).mono ?_
  rintro e w1 ⟨x1, rfl, hx1, hb1'⟩
  have hx1' : RB w1 x1 (leBytes 4 1312964935) := RV.own hx1
  replace hR := hR.keep hb1'
  obtain ⟨a1, k1, rfl⟩ := own_slice hx1
  clear hx1 hb1'
  go_wp2_with (at_builtin; (refine wpList_app rfl _ _ rfl rfl hR _ _ rfl hx1' (by simp [leBytes_length]) ?_))
  intro v0 w0 hR0 _
  clear hR hx1'
  obtain ⟨l1, hl1⟩ : ∃ l1, l1 = leBytes 4 1312964935 := ⟨_, rfl⟩
  rw [← hl1] at hR0
  have HLLl1 := Lib.hid (show l1.length = 4 by rw [hl1]; rfl)
  obtain ⟨a0, k0, rfl⟩ := hR0.slice
  have HL1 := Lib.hid hl1
  clear hl1
  have hT := HT.out w0 hR0.bel
  have t0 := cells_at hT 0 _ rfl
  have hlT := heap_lt hT
  simp only [List.getElem_toArray, List.getElem_cons_succ, List.getElem_cons_zero] at t0
  clear hT
  go_wp2_with fail
  refine (bytes_calls 2 M.mem w0 (by omega) (by omega)).mono ?_
  rintro e w1 ⟨x1, rfl, hx1, hb1'⟩
  have hx1' : RB w1 x1 (leBytes 2 M.mem) := RV.own hx1
  replace hR0 := hR0.keep hb1'
  obtain ⟨a1, k1, rfl⟩ := own_slice hx1
  clear hx1 hb1' t0 hlT
  go_wp2_with (at_builtin; (refine wpList_app rfl _ _ rfl rfl hR0 _ _ rfl hx1' (by rw [leBytes_length, HLLl1.out]; omega) ?_))
  intro v0 w2 hR1 _
  clear hR0 hx1'
  obtain ⟨l2, hl2⟩ : ∃ l2, l2 = l1 ++ leBytes 2 M.mem := ⟨_, rfl⟩
  rw [← hl2] at hR1
  have HLLl2 := Lib.hid (show l2.length = 6 by rw [hl2, List.length_append, HLLl1.out, leBytes_length])
  obtain ⟨a0, k0, rfl⟩ := hR1.slice
  have HL2 := Lib.hid hl2
  clear hl2
  have hT := HT.out w2 hR1.bel
  have t1 := cells_at hT 1 _ rfl
  have hlT := heap_lt hT
  simp only [List.getElem_toArray, List.getElem_cons_succ, List.getElem_cons_zero] at t1
  clear hT
  go_wp2_with fail
  refine (bytes_calls 2 M.blk w2 (by omega) (by omega)).mono ?_
  rintro e w3 ⟨x1, rfl, hx1, hb1'⟩
  have hx1' : RB w3 x1 (leBytes 2 M.blk) := RV.own hx1
  replace hR1 := hR1.keep hb1'
  obtain ⟨a1, k1, rfl⟩ := own_slice hx1
  clear hx1 hb1' t1 hlT
  go_wp2_with (at_builtin; (refine wpList_app rfl _ _ rfl rfl hR1 _ _ rfl hx1' (by rw [leBytes_length, HLLl2.out]; omega) ?_))
  intro v0 w4 hR2 _
  clear hR1 hx1'
  obtain ⟨l3, hl3⟩ : ∃ l3, l3 = l2 ++ leBytes 2 M.blk := ⟨_, rfl⟩
  rw [← hl3] at hR2
  have HLLl3 := Lib.hid (show l3.length = 8 by rw [hl3, List.length_append, HLLl2.out, leBytes_length])
  obtain ⟨a0, k0, rfl⟩ := hR2.slice
  have HL3 := Lib.hid hl3
  clear hl3
  have hT := HT.out w4 hR2.bel
  have t2 := cells_at hT 2 _ rfl
  have hlT := heap_lt hT
  simp only [List.getElem_toArray, List.getElem_cons_succ, List.getElem_cons_zero] at t2
  clear hT
  go_wp2_with fail
  refine (bytes_calls 2 M.pgs w4 (by omega) (by omega)).mono ?_
  rintro e w5 ⟨x1, rfl, hx1, hb1'⟩
  have hx1' : RB w5 x1 (leBytes 2 M.pgs) := RV.own hx1
  replace hR2 := hR2.keep hb1'
  obtain ⟨a1, k1, rfl⟩ := own_slice hx1
  clear hx1 hb1' t2 hlT
  go_wp2_with (at_builtin; (refine wpList_app rfl _ _ rfl rfl hR2 _ _ rfl hx1' (by rw [leBytes_length, HLLl3.out]; omega) ?_))
  intro v0 w6 hR3 _
  clear hR2 hx1'
  obtain ⟨l4, hl4⟩ : ∃ l4, l4 = l3 ++ leBytes 2 M.pgs := ⟨_, rfl⟩
  rw [← hl4] at hR3
  have HLLl4 := Lib.hid (show l4.length = 10 by rw [hl4, List.length_append, HLLl3.out, leBytes_length])
  obtain ⟨a0, k0, rfl⟩ := hR3.slice
  have HL4 := Lib.hid hl4
  clear hl4
  have hT := HT.out w6 hR3.bel
  have t3 := cells_at hT 3 _ rfl
  have hlT := heap_lt hT
  simp only [List.getElem_toArray, List.getElem_cons_succ, List.getElem_cons_zero] at t3
  clear hT
  go_wp2_with fail
  refine (bytes_calls 2 M.siz w6 (by omega) (by omega)).mono ?_
  rintro e w7 ⟨x1, rfl, hx1, hb1'⟩
  have hx1' : RB w7 x1 (leBytes 2 M.siz) := RV.own hx1
  replace hR3 := hR3.keep hb1'
  obtain ⟨a1, k1, rfl⟩ := own_slice hx1
  clear hx1 hb1' t3 hlT
  go_wp2_with (at_builtin; (refine wpList_app rfl _ _ rfl rfl hR3 _ _ rfl hx1' (by rw [leBytes_length, HLLl4.out]; omega) ?_))
  intro v0 w8 hR4 _
  clear hR3 hx1'
  obtain ⟨l5, hl5⟩ : ∃ l5, l5 = l4 ++ leBytes 2 M.siz := ⟨_, rfl⟩
  rw [← hl5] at hR4
  have HLLl5 := Lib.hid (show l5.length = 12 by rw [hl5, List.length_append, HLLl4.out, leBytes_length])
  obtain ⟨a0, k0, rfl⟩ := hR4.slice
  have HL5 := Lib.hid hl5
  clear hl5
  have hhead : l5 = headB M := by
    rw [HL5.out, HL4.out, HL3.out, HL2.out, HL1.out]
    simp [headB, leAll]
  have HHD := Lib.hid hhead
  have hR5 := hR4
  clear hhead hR4
  go_wp2_with fail
  have HLL5 := Lib.hid (show l5.length = 12 by rw [HHD.out, headB_length])
  go_loopw [3, 4] (fun vb i wr => ∃ (k : Nat) (la : List UInt8), k ≤ M.mem + 1 ∧ i = .int .i64 k ∧ RS w wr vb la ∧ la = l5 ++ chipsB M k) (fun _ i _ => M.mem + 1 - (intOf i).toNat)
  case atStart => exact ⟨0, l5, Nat.zero_le _, rfl, hR5, by simp [chipsB]⟩
  case round =>
    clear hR5
    generalize wr = wo at hrel ⊢
    obtain ⟨k, la, hk, rfl, hS, hla⟩ := hrel
    have hN0 := HN.out
    have hT := HT.out wo hS.bel
    have t4 := cells_at hT 4 _ rfl
    have t5 := cells_at hT 5 _ rfl
    have hlT := heap_lt hT
    simp only [List.getElem_toArray, List.getElem_cons_succ, List.getElem_cons_zero] at t4 t5
    have HLA := Lib.hid (⟨hla, by have := chipsB_le hN0.ok k hk; rw [hla, List.length_append, HLL5.out]; omega⟩ : la = l5 ++ chipsB M k ∧ la.length ≤ 37921181)
    clear hla hT
    obtain ⟨a0, k0, rfl⟩ := hS.slice
    by_cases hlt : k < M.mem + 1
    · have hlt' : (k : Int) < (M.mem : Int) + 1 := by omega
      have hN := hN0.below hS.bel
      have td := hN.dead.cell (o := k) (by omega)
      have hld := cell_lt td
      have hS1 := hS.keep ((Below.refl wo.heap.size wo).alloc (Nat.le_refl _) (.cells #[.int .u8 (bitN (M.gone k))] 5))
      have hbit := RB.bit (M.gone k) (heap_new wo (.cells #[.int .u8 (bitN (M.gone k))] 5))
      clear hN hN0
      go_wp2_with fail
      refine (one_calls _ _).mono ?_
      rintro e wn ⟨rfl, rfl⟩
      go_wp2_with (at_builtin; (refine wpList_app rfl _ _ rfl rfl hS1 _ _ rfl hbit (by rw [leAll_length]; have := HLA.out.2; simp only [List.length_cons, List.length_nil]; omega) ?_))
      intro v1 w1 hS2 _
      obtain ⟨lb, hlb⟩ : ∃ lb, lb = la ++ leAll 1 [bitN (M.gone k)] := ⟨_, rfl⟩
      rw [← hlb] at hS2
      have HLB := Lib.hid (⟨hlb, by rw [hlb, List.length_append, leAll_length]; have := HLA.out.2; simp only [List.length_cons, List.length_nil]; omega⟩ : lb = la ++ leAll 1 [bitN (M.gone k)] ∧ lb.length ≤ 37921182)
      obtain ⟨a1, k1, rfl⟩ := hS2.slice
      have hS3 := hS2
      have HLT := Lib.hid hlt
      clear hlb hS hS1 hS2 hbit t4 t5 hlT td hld hlt hlt'
      go_wp2_with fail
      go_loopw [3, 5] (fun vb i wr => ∃ (j : Nat) (lc : List UInt8), j ≤ M.blk ∧ i = .int .i64 j ∧ RS w wr vb lc ∧ lc = lb ++ blocksB M k j) (fun _ i _ => M.blk - (intOf i).toNat)
      case atStart => exact ⟨0, lb, Nat.zero_le _, rfl, hS3, by simp [blocksB]⟩
      case round =>
        clear hS3
        generalize wr = wi at hrel ⊢
        obtain ⟨j, lc, hj, rfl, hS, hlc⟩ := hrel
        have hN0 := HN.out
        have hT := HT.out wi hS.bel
        have t1 := cells_at hT 1 _ rfl
        have t4 := cells_at hT 4 _ rfl
        have hlT := heap_lt hT
        simp only [List.getElem_toArray, List.getElem_cons_succ, List.getElem_cons_zero] at t1 t4
        have HLC := Lib.hid (⟨hlc, by have := blocksB_le hN0.ok k j hj; have := HLB.out.2; rw [hlc, List.length_append]; omega⟩ : lc = lb ++ blocksB M k j ∧ lc.length ≤ 40151838)
        clear hlc hT
        obtain ⟨a0, k0, rfl⟩ := hS.slice
        by_cases hjlt : j < M.blk
        · have hjlt' : (j : Int) < (M.blk : Int) := by omega
          have hlt := HLT.out
          have hlt' : (k : Int) < (M.mem : Int) + 1 := by omega
          have hN := hN0.below hS.bel
          have tc := hN.chips.cell (o := k) (by omega)
          have hlc := cell_lt tc
          have hrow := hN.blk k (by omega)
          have c0 := hrow.cell (o := j * 4) (by omega)
          have c1 := hrow.cell (o := j * 4 + 1) (by omega)
          have c2 := hrow.cell (o := j * 4 + 2) (by omega)
          have c3 := hrow.cell (o := j * 4 + 3) (by omega)
          rw [blkCells0] at c0
          rw [blkCells1] at c1
          rw [blkCells2] at c2
          rw [blkCells3] at c3
          have hlb := cell_lt c0
          have hnx := hN0.ok.next k j
          have her := hN0.ok.erases k j
          have hop := hN0.ok.ops
          obtain ⟨q, hq⟩ : ∃ q, q = wi.heap.size := ⟨_, rfl⟩
          have hb2 := (Below.refl wi.heap.size wi).alloc (Nat.le_refl _) (.cells #[.slice (some ⟨L.pb k j, 0, none⟩) M.pgs (L.pc k j), .int .i64 (M.next k j), .int .i64 (M.erases k j), .bool (M.bad k j)] 66)
          have hS1 := hS.keep hb2
          have hO1 : Off q (.cells #[.slice (some ⟨L.pb k j, 0, none⟩) M.pgs (L.pc k j), .int .i64 (M.next k j), .int .i64 (M.erases k j), .bool (M.bad k j)] 66 (0, 0)) (.slice a0 lc.length k0) (wi.alloc (.cells #[.slice (some ⟨L.pb k j, 0, none⟩) M.pgs (L.pc k j), .int .i64 (M.next k j), .int .i64 (M.erases k j), .bool (M.bad k j)] 66)) := ⟨heap_is hq, hS.off (by omega)⟩
          have HJ := Lib.hid (⟨hS1, hO1, hjlt⟩ : _ ∧ _ ∧ _)
          clear hS hS1 hO1 hb2 hrow hN hN0
          go_wp2_with fail
          rw [← hq]
          clear hq t1 t4 hlT tc hlc c0 c1 c2 c3 hlb
          obtain ⟨hS1, hO1, hjlt⟩ := HJ.out
          generalize wi.alloc (.cells #[.slice (some ⟨L.pb k j, 0, none⟩) M.pgs (L.pc k j), .int .i64 (M.next k j), .int .i64 (M.erases k j), .bool (M.bad k j)] 66) = wa at hS1 hO1 ⊢
          clear HJ
          obtain ⟨ob, hob⟩ : ∃ ob, ob = Obj.cells #[.slice (some ⟨L.pb k j, 0, none⟩) M.pgs (L.pc k j), .int .i64 (M.next k j), .int .i64 (M.erases k j), .bool (M.bad k j)] 66 (0, 0) := ⟨_, rfl⟩
          rw [← hob] at hO1
          have d0 : ∀ w' : World, w'.heap[q]? = some ob → w'.cell? ⟨q, 0, none⟩ = some (.slice (some ⟨L.pb k j, 0, none⟩) M.pgs (L.pc k j)) := fun w' h => cells_at (hob ▸ h) 0 _ rfl
          have d1 : ∀ w' : World, w'.heap[q]? = some ob → w'.cell? ⟨q, 1, none⟩ = some (.int .i64 (M.next k j)) := fun w' h => cells_at (hob ▸ h) 1 _ rfl
          have d2 : ∀ w' : World, w'.heap[q]? = some ob → w'.cell? ⟨q, 2, none⟩ = some (.int .i64 (M.erases k j)) := fun w' h => cells_at (hob ▸ h) 2 _ rfl
          have d3 : ∀ w' : World, w'.heap[q]? = some ob → w'.cell? ⟨q, 3, none⟩ = some (.bool (M.bad k j)) := fun w' h => cells_at (hob ▸ h) 3 _ rfl
          have HOB := Lib.hid hob
          have hnxi : (M.next k j : Int) ≤ 255 := by omega
          clear hob
          (refine wp_region_mix [0, 1, 2, 4, 5, 6, 3, 7, 8, 9] [(true, true), (true, true), (true, false), (true, true), (true, false), (true, true), (false, true), (false, false), (false, false), (true, true)] [0, 0, 2, 6, 0, 16, 48, 126, 255, 511] (fun w' => w'.heap[q]? = some ob) (by kernel_rfl) (by kernel_rfl) ?_ ?_; rotate_left; simp only [pickL, List.map_cons, List.map_nil, List.getD_cons_succ, List.getD_cons_zero])
          rotate_left
          focus exact hO1.1
          (repeat (first | (refine mix_pure (fun hne K hK => ?_); go_simp; refine hK _ ?_; clear hK K hne) | (refine mix_load ?_ (fun K hK => ?_); (focus (first | rfl | (go_simp; done))); apply Exists.intro; apply And.intro; (focus (intro w' hC; go_simp; exact rfl)); go_simp; refine hK _ ?_; clear hK K) | (refine mix_skip ?_ (fun K hK => ?_); (focus (first | rfl | (go_simp; done))); go_simp; refine hK _ ?_; clear hK K)))
          (refine mix_one (by first | rfl | (go_simp; done)) (fun R hR hX => ?_))
          go_wp2_with fail
          refine (one_calls _ _).mono ?_
          rintro e wn ⟨rfl, rfl⟩
          go_wp2_with fail
          refine hR _ _ rfl ⟨_, (show wa.drew.heap[q]? = some ob from hO1.1), fun _ => rfl, ?_⟩
          clear hR hX R
          (repeat (first | (refine mix_pure (fun hne K hK => ?_); go_simp; refine hK _ ?_; clear hK K hne) | (refine mix_load ?_ (fun K hK => ?_); (focus (first | rfl | (go_simp; done))); apply Exists.intro; apply And.intro; (focus (intro w' hC; go_simp; exact rfl)); go_simp; refine hK _ ?_; clear hK K) | (refine mix_skip ?_ (fun K hK => ?_); (focus (first | rfl | (go_simp; done))); go_simp; refine hK _ ?_; clear hK K)))
          (refine mix_one (by first | rfl | (go_simp; done)) (fun R hR hX => ?_))
          go_wp2_with fail
          have hb3 := ((Below.refl wa.heap.size wa).alloc (Nat.le_refl _) (.cells #[.int .u8 (bitN (M.bad k j)), .int .u8 (M.next k j)] 5)).drew
          have hS2 := hS1.keep hb3
          have hO2 := hO1.keep hb3
          have hbits := (RB.bits2 (M.bad k j) (M.next k j) hnx (heap_new wa (.cells #[.int .u8 (bitN (M.bad k j)), .int .u8 (M.next k j)] 5))).below (Below.refl _ _).drew
          refine hR _ _ rfl ⟨_, hO2.1, fun _ => rfl, ?_⟩
          clear hR hX R hb3 hS1 hO1
          (repeat (first | (refine mix_pure (fun hne K hK => ?_); go_simp; refine hK _ ?_; clear hK K hne) | (refine mix_load ?_ (fun K hK => ?_); (focus (first | rfl | (go_simp; done))); apply Exists.intro; apply And.intro; (focus (intro w' hC; go_simp; exact rfl)); go_simp; refine hK _ ?_; clear hK K) | (refine mix_skip ?_ (fun K hK => ?_); (focus (first | rfl | (go_simp; done))); go_simp; refine hK _ ?_; clear hK K)))
          (refine mix_one (by first | rfl | (go_simp; done)) (fun R hR hX => ?_))
          go_wp2_with (at_builtin; (refine wpList_app rfl _ _ rfl rfl hS2 _ _ rfl hbits (by rw [leAll_length]; have := HLC.out.2; simp only [List.length_cons, List.length_nil]; omega) ?_))
          intro v3 w3 hS3 hoff
          have hO3 := hoff _ _ hO2
          obtain ⟨ld, hld⟩ : ∃ ld, ld = lc ++ leAll 1 [bitN (M.bad k j), M.next k j] := ⟨_, rfl⟩
          rw [← hld] at hS3
          have HLD := Lib.hid (⟨hld, by rw [hld, List.length_append, leAll_length]; have := HLC.out.2; simp only [List.length_cons, List.length_nil]; omega⟩ : ld = lc ++ leAll 1 [bitN (M.bad k j), M.next k j] ∧ ld.length ≤ 40151840)
          clear hld hoff hS2 hO2 hbits
          obtain ⟨a3, k3, rfl⟩ := hS3.slice
          go_wp2_with fail
          refine hR _ _ rfl ⟨_, hO3.1, fun _ => rfl, ?_⟩
          clear hR hX R
          (repeat (first | (refine mix_pure (fun hne K hK => ?_); go_simp; refine hK _ ?_; clear hK K hne) | (refine mix_load ?_ (fun K hK => ?_); (focus (first | rfl | (go_simp; done))); apply Exists.intro; apply And.intro; (focus (intro w' hC; go_simp; exact rfl)); go_simp; refine hK _ ?_; clear hK K) | (refine mix_skip ?_ (fun K hK => ?_); (focus (first | rfl | (go_simp; done))); go_simp; refine hK _ ?_; clear hK K)))
          refine mix_done ?_
          have e2 := d2 w3 hO3.1
          have hlq := cell_lt e2
          have HS3 := Lib.hid (⟨hS3, hO3⟩ : _ ∧ _)
          clear hS3 hO3 d1 d2 d3
          go_wp2_with fail
          refine (bytes_calls 4 (M.erases k j) w3 (by omega) (by omega)).mono ?_
          rintro e w4 ⟨x1, rfl, hx1, hb1'⟩
          have hx1' : RB w4 x1 (leBytes 4 (M.erases k j)) := RV.own hx1
          have hS4 := HS3.out.1.keep hb1'
          have hO4 := HS3.out.2.keep hb1'
          obtain ⟨a4, k4, rfl⟩ := own_slice hx1
          clear hx1 hb1' HS3 e2 hlq
          go_wp2_with (at_builtin; (refine wpList_app rfl _ _ rfl rfl hS4 _ _ rfl hx1' (by rw [leBytes_length]; have := HLD.out.2; omega) ?_))
          intro v5 w5 hS5 hoff
          have hO5 := hoff _ _ hO4
          obtain ⟨le, hle⟩ : ∃ le, le = ld ++ leBytes 4 (M.erases k j) := ⟨_, rfl⟩
          rw [← hle] at hS5
          have HLE := Lib.hid (⟨hle, by rw [hle, List.length_append, leBytes_length]; have := HLD.out.2; omega⟩ : le = ld ++ leBytes 4 (M.erases k j) ∧ le.length ≤ 40151844)
          obtain ⟨a5, k5, rfl⟩ := hS5.slice
          have hS6 := hS5
          have HJ := Lib.hid hjlt
          clear hle hoff hS4 hS5 hO4 hx1' hjlt hjlt' hlt hlt' hnx her hop hnxi
          go_wp2_with fail
          go_loopw [3, 7] (fun vb i wr => ∃ (p : Nat) (lf : List UInt8), p ≤ M.pgs ∧ i = .int .i64 p ∧ RS w wr vb lf ∧ lf = le ++ pagesB M k j p ∧ Off q ob vb wr) (fun _ i _ => M.pgs - (intOf i).toNat)
          case atStart => exact ⟨0, le, Nat.zero_le _, rfl, hS6, by simp [pagesB], hO5⟩
          case round =>
            clear hS6 hO5
            generalize wr = wp at hrel ⊢
            obtain ⟨p, lf, hp, rfl, hS, hlf, hO⟩ := hrel
            have hN0 := HN.out
            have hT := HT.out wp hS.bel
            have t2 := cells_at hT 2 _ rfl
            have hlT := heap_lt hT
            simp only [List.getElem_toArray, List.getElem_cons_succ, List.getElem_cons_zero] at t2
            have HLF := Lib.hid (⟨hlf, by have := pagesB_le hN0.ok k j p hp; have := HLE.out.2; rw [hlf, List.length_append]; omega⟩ : lf = le ++ pagesB M k j p ∧ lf.length ≤ 40186692)
            clear hlf hT
            obtain ⟨a0, k0, rfl⟩ := hS.slice
            by_cases hplt : p < M.pgs
            · have hplt' : (p : Int) < (M.pgs : Int) := by omega
              have hN := hN0.below hS.bel
              have hcc : ∀ w', Below w.heap.size w w' → w'.cell? ⟨L.pb k j, p, none⟩ = some (L.pv k j p) := fun w' hb => ((hN0.below hb).pgs k j (by have := HLT.out; omega) HJ.out).cell (o := p) (by show p < M.pgs * 1; omega)
              have c0 := hcc wp hS.bel
              have hpg := hN0.pg k j p (by have := HLT.out; omega) HJ.out hplt
              have hpl := hN0.ok.page k j p
              have hsc := pagesB_succ M k j p
              have e0 := d0 wp hO.1
              have hlg := cell_lt c0
              have hlq := cell_lt e0
              generalize M.page k j p = pg at hpg hpl hsc
              simp only [Pg] at hpg
              generalize L.pv k j p = x0 at c0 hpg hcc
              obtain ⟨xa, xc, rfl, -, -⟩ := hpg.form
              have hbx := (Below.refl wp.heap.size wp).alloc (Nat.le_refl _) (.cells #[.int .u8 (bitN (decide (0 < pg.length)))] 5)
              have hS1 := hS.keep hbx
              have hO1 := hO.keep hbx
              have hbit := RB.bit (decide (0 < pg.length)) (heap_new wp (.cells #[.int .u8 (bitN (decide (0 < pg.length)))] 5))
              have hpgb : pg.length ≤ 1088 := by rcases hpl with e | e <;> rw [e] <;> simp <;> omega
              have HP := Lib.hid (⟨hS1, hO1, hbit, hpg, hsc, hplt, hpgb, hcc⟩ : _ ∧ _ ∧ _ ∧ _ ∧ _ ∧ _ ∧ _ ∧ _)
              clear hS hO hS1 hO1 hbit hpg hsc hpl hbx hN hN0 hpgb hcc
              go_wp2_with fail
              refine (one_calls _ _).mono ?_
              rintro e wn ⟨rfl, rfl⟩
              obtain ⟨hS1, hO1, hbit, hpg, hsc, -, hpgb, hcc⟩ := HP.out
              go_wp2_with (at_builtin; (refine wpList_app rfl _ _ rfl rfl hS1 _ _ rfl hbit (by rw [leAll_length]; have := HLF.out.2; simp only [List.length_cons, List.length_nil]; omega) ?_))
              intro v1 w1 hS2 hoff
              have hO2 := hoff _ _ hO1
              obtain ⟨lg, hlg'⟩ : ∃ lg, lg = lf ++ leAll 1 [bitN (decide (0 < pg.length))] := ⟨_, rfl⟩
              rw [← hlg'] at hS2
              have HLG := Lib.hid (⟨hlg', by rw [hlg', List.length_append, leAll_length]; have := HLF.out.2; simp only [List.length_cons, List.length_nil]; omega⟩ : lg = lf ++ leAll 1 [bitN (decide (0 < pg.length))] ∧ lg.length ≤ 40186693)
              obtain ⟨a1, k1, rfl⟩ := hS2.slice
              have c1 := hcc w1 hS2.bel
              have e1 := d0 w1 hO2.1
              have hlg1 := cell_lt c1
              have hlq1 := cell_lt e1
              have hpg1 := hpg.below hS2.bel
              have HP2 := Lib.hid (⟨hsc, hpgb⟩ : _ ∧ _)
              clear hS1 hO1 hbit hpg hsc hpgb hcc hoff hlg' c0 e0 hlg hlq t2 hlT
              go_wp2_with (at_builtin; (refine wpList_app rfl _ _ rfl rfl hS2 _ _ rfl hpg1 (by have := HLG.out.2; have := HP2.out.2; omega) ?_))
              intro v2 w2 hS3 hoff
              have hO3 := hoff _ _ hO2
              have hend : lg ++ pg = le ++ pagesB M k j (p + 1) := by
                have hb : leAll 1 [bitN (decide (0 < pg.length))] ++ pg = pageB pg := by
                  unfold pageB
                  cases pg <;> simp
                rw [HLG.out.1, HLF.out.1, HP2.out.1, List.append_assoc, hb, List.append_assoc]
              obtain ⟨lh, hlh⟩ : ∃ lh, lh = lg ++ pg := ⟨_, rfl⟩
              rw [← hlh] at hS3
              have HX := Lib.hid (⟨hS3, hO3, (HP.out).2.2.2.2.2.1, hlh.trans hend⟩ : _ ∧ _ ∧ _ ∧ _)
              obtain ⟨a2, k2, rfl⟩ := hS3.slice
              clear hS2 hO2 hpg1 hoff hend hlh hS3 hO3 c1 e1 hlg1 hlq1 HP HP2
              go_wp2_with fail
              obtain ⟨hS3, hO3, hplt, hlh⟩ := HX.out
              go_roundw
              case rel => exact ⟨p + 1, lh, hplt, by go_num, hS3, hlh, hO3⟩
              case measure => simp [intOf]; omega
            · obtain rfl : p = M.pgs := by omega
              have hend : lf = lb ++ blocksB M k (j + 1) := by
                rw [HLF.out.1, HLE.out.1, HLD.out.1, HLC.out.1, blocksB_succ, blockB, le_mod]
                simp only [List.append_assoc]
              have HX := Lib.hid (⟨hS, hend⟩ : _ ∧ _)
              clear hS hO hend hN0
              have hjlt := HJ.out
              have hjlt' : (j : Int) < (M.blk : Int) := by omega
              go_wp2_with fail
              have hjlt := HJ.out
              go_roundw
              case rel => exact ⟨j + 1, lf, hjlt, by go_num, HX.out⟩
              case measure => simp [intOf]; omega
        · obtain rfl : j = M.blk := by omega
          have hend : lc = l5 ++ chipsB M (k + 1) := by
            rw [HLC.out.1, HLB.out.1, HLA.out.1, chipsB_succ, chipB]
            simp only [List.append_assoc]
          have HX := Lib.hid (⟨hS, hend⟩ : _ ∧ _)
          clear hS hend hN0 t4
          have hlt := HLT.out
          have hlt' : (k : Int) < (M.mem : Int) + 1 := by omega
          go_wp2_with fail
          have hlt := HLT.out
          go_roundw
          case rel => exact ⟨k + 1, lc, by omega, by go_num, HX.out⟩
          case measure => simp [intOf]; omega
    · obtain rfl : k = M.mem + 1 := by omega
      have hend : la = bodyB M := by rw [HLA.out.1, HHD.out]; rfl
      have HX := Lib.hid (⟨hS, hend⟩ : _ ∧ _)
      have hRB : RB wo (.slice a0 la.length k0) la := RV.own hS.own
      clear hS hend hN0 t5
      go_wp2_with fail
      refine (ref_of _ la wo hRB).mono ?_
      rintro e wn ⟨rfl, rfl⟩
      obtain ⟨sn, hsn⟩ : ∃ sn : Nat, sn = (crcOf la).toNat := ⟨_, rfl⟩
      have hsl : sn < 4294967296 := by rw [hsn]; exact (crcOf la).isLt
      have HSN := Lib.hid hsn
      simp only [u32v]
      rw [← hsn]
      clear hsn hRB
      go_wp2_with fail
      refine (bytes_calls 4 sn wo (by omega) (by omega)).mono ?_
      rintro e w4 ⟨x1, rfl, hx1, hb1'⟩
      have hx1' : RB w4 x1 (leBytes 4 sn) := RV.own hx1
      have hS4 := HX.out.1.keep hb1'
      obtain ⟨a4, k4, rfl⟩ := own_slice hx1
      clear hx1 hb1'
      go_wp2_with (at_builtin; (refine wpList_app rfl _ _ rfl rfl hS4 _ _ rfl hx1' (by rw [leBytes_length]; have := HLA.out.2; omega) ?_))
      intro v5 w5 hS5 _
      have hfin : la ++ leBytes 4 sn = dumpB M := by
        rw [HX.out.2, HSN.out, HX.out.2, dumpB, le_one]
      rw [hfin] at hS5
      have HZ := Lib.hid hS5
      clear hS4 hx1' hfin hS5
      go_wp2_with fail
      go_ret
      exact ⟨v5, rfl, HZ.out.own, HZ.out.bel⟩
end Go.Proofs.Ytphnjiokihbhnaa
