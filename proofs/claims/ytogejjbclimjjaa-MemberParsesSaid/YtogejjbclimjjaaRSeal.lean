/- Layer 5's answer: Seal, with nothing beside. -/
--only r2
import Derived.Test.YtogejjbclimjjaaSeal
import Derived.Test.YtogejjbclimjjaaRefPad
import Derived.Test.YtogejjbclimjjaaR2
import Derived.Test.YtogejjbclimjjaaTabREnc
namespace Go.Proofs.Ytogejjbclimjjaa
set_option linter.unusedVariables false
set_option linter.unusedSimpArgs false
open Go.RowKit

/-- two own rows that begin with other values lie in two blocks -/
theorem own_diff {w : World} {b1 b2 e1 e2 n m : Nat} {v u : Value} {x y : Value} {xs ys : List Value} (h1 : w.ownsRow b1 e1 1 v n (x :: xs)) (h2 : w.ownsRow b2 e2 1 u m (y :: ys)) (hne : x ≠ y) : u.ownBlock ≠ v.ownBlock := by
  rcases h1.2 with ⟨_, h⟩ | ⟨g, cap, cur, rfl, hg, hgg, hc, hm, hcs, htk⟩
  · have := h1.1; rw [h] at this; simp at this
  · rcases h2.2 with ⟨_, h⟩ | ⟨g2, cap2, cur2, rfl, hg2, hgg2, hc2, hm2, hcs2, htk2⟩
    · have := h2.1; rw [h] at this; simp at this
    · intro e
      simp only [Value.ownBlock, Option.some.injEq] at e
      subst e
      rw [hgg] at hgg2
      simp only [Option.some.injEq, Obj.cells.injEq] at hgg2
      obtain ⟨rfl, -, -⟩ := hgg2
      have a1 : cur.toList[0]? = some x := by
        have := congrArg (fun l => l[0]?) htk
        simp only [List.getElem?_take, List.getElem?_cons_zero] at this
        split at this
        · exact this
        · cases this
      have a2 : cur.toList[0]? = some y := by
        have := congrArg (fun l => l[0]?) htk2
        simp only [List.getElem?_take, List.getElem?_cons_zero] at this
        split at this
        · exact this
        · cases this
      rw [a1] at a2
      exact hne (Option.some.inj a2)

def Hdr.rv (h : Hdr) : Value := .agg #[.int .i64 h.kind, .int .i64 h.epoch, .int .i64 h.batch, .int .i64 h.index, .int .i64 h.count, .int .i64 h.block, .int .i64 h.more]

set_option maxRecDepth 100000 in
set_option maxHeartbeats 1000000 in
theorem rseal_nil (h : Hdr) (ho : h.Ok) (vd : Value) (data : List UInt8) (w : World) (hd : RB w vd data) (hdl : data.length ≤ 1000000) :
    Calls Try.prog 40 #[h.rv, vd, .slice none 0 0] w fun e w' => ∃ x, e = .returned x ∧ w'.ownsRow w.heap.size 5 1 x 64 ((sealB h data []).map u8v) ∧ Below w.heap.size w w' := by
  obtain ⟨i, hi, hz0, hz1, hz2⟩ := info_parts infoU8
  obtain ⟨ad, cd, rfl, hdl1, hdl2⟩ := hd.form
  have hfin : ∀ x w', w'.ownsRow w.heap.size 5 1 x 64 ((sealB h data []).map u8v) → Below w.heap.size w w' → (fun e w' => ∃ x, e = Ending.returned x ∧ w'.ownsRow w.heap.size 5 1 x 64 ((sealB h data []).map u8v) ∧ Below w.heap.size w w') (.returned x) w' := fun x w' h1 h2 => ⟨x, rfl, h1, h2⟩
  generalize (fun e w' => ∃ x, e = Ending.returned x ∧ w'.ownsRow w.heap.size 5 1 x 64 ((sealB h data []).map u8v) ∧ Below w.heap.size w w') = Post at hfin ⊢
  have HF := Lib.hid hfin
  obtain ⟨ok0, ok1, ok2, ok3, ok4, ok5, ok6⟩ := ho
  have hbytes : h.bytes = leBytes 2 22356 ++ leAll 1 [h.kind, 0] ++ leBytes 4 h.epoch ++ leBytes 4 h.batch ++ leBytes 2 h.index ++ leBytes 2 h.count ++ leBytes 4 h.block ++ leBytes 4 h.more := by
    unfold Hdr.bytes
    simp only [leAll, List.flatMap_cons, List.flatMap_nil, List.append_nil, List.nil_append, List.append_assoc]
  obtain ⟨s, hs⟩ : ∃ s, s = sumOf3 h.bytes data (tailB []) := ⟨_, rfl⟩
  have hs32 : s < 4294967296 := by rw [hs]; exact (crcOf _).isLt
  have hseal : sealB h data [] = leBytes 2 22356 ++ leAll 1 [h.kind, 0] ++ leBytes 4 h.epoch ++ leBytes 4 h.batch ++ leBytes 2 h.index ++ leBytes 2 h.count ++ leBytes 4 h.block ++ leBytes 4 h.more ++ leBytes 4 s ++ List.replicate 4 0 ++ List.replicate 32 0 := by
    unfold sealB
    rw [← hs, show 32 - (h.bytes ++ leBytes 4 s).length = 4 by rw [List.length_append, h.bytes_length, leBytes_length], hbytes]
    rfl
  have hsum : crcOf (leBytes 2 22356 ++ leAll 1 [h.kind, 0] ++ leBytes 4 h.epoch ++ leBytes 4 h.batch ++ leBytes 2 h.index ++ leBytes 2 h.count ++ leBytes 4 h.block ++ leBytes 4 h.more ++ data ++ List.replicate 32 0) = BitVec.ofNat 32 s := by
    rw [hs, hbytes]
    unfold sumOf3 tailB
    rw [BitVec.ofNat_toNat, BitVec.setWidth_eq]
    congr 1
    (try simp only [List.flatten_cons, List.flatten_nil, List.append_nil, List.append_assoc])
    (try rfl)
  have hkind : ([.int .u8 h.kind, .int .u8 0] : List Value) = (leAll 1 [h.kind, 0]).map u8v := by
    rw [leAll1_map [h.kind, 0] (fun n hn => by simp at hn; omega)]; rfl
  have HS := Lib.hid (⟨hseal, hsum, hs32, hkind⟩ : _ ∧ _ ∧ _ ∧ _)
  clear hseal hsum hs32 hkind hs hbytes hfin
  obtain ⟨nk, ne, nb, ni, nc, nl, nm⟩ := h
  simp only at HF HS ok0 ok1 ok2 ok3 ok4 ok5 ok6
  unfold Hdr.rv
  obtain ⟨q, hq⟩ : ∃ q, q = w.heap.size := ⟨_, rfl⟩
  obtain ⟨w1, hw1⟩ : ∃ w1, w1 = w.alloc (.cells #[.int .i64 nk, .int .i64 ne, .int .i64 nb, .int .i64 ni, .int .i64 nc, .int .i64 nl, .int .i64 nm] 95) := ⟨_, rfl⟩
  have hb1 : Below w.heap.size w w1 := by rw [hw1]; exact (Below.refl _ _).alloc (Nat.le_refl _) _
  have hQ1 : w1.heap[q]? = some (.cells #[.int .i64 nk, .int .i64 ne, .int .i64 nb, .int .i64 ni, .int .i64 nc, .int .i64 nl, .int .i64 nm] 95 (0, 0)) := by rw [hw1]; exact heap_is hq
  have HQ := Lib.hid hQ1
  have HD := Lib.hid (⟨hd.below hb1, hb1⟩ : _ ∧ _)
  have HW1 := Lib.hid hw1
  clear hQ1 hw1 hd
  go_enter Try.func40, Try.ntmps40
  go_upto_region 1 with (fail)
  rw [← hq, ← HW1.out]
  clear hq HW1 hb1
  have HP0 := Lib.hid (⟨World.ownsRow_nil w1 w1.heap.size 5 1, Below.refl w1.heap.size w1⟩ : _ ∧ _)
  -- 22356
  have hck := bytes_calls 2 22356 w1 (by omega) (by omega)
  rw [show ((22356 : Nat) : Int) = 22356 from rfl, show ((2 : Nat) : Int) = 2 from rfl] at hck
  have HC := Lib.hid hck
  clear hck
  go_wp2_with fail
  refine HC.out.mono ?_
  rintro e wa1 ⟨x, rfl, hx, hb⟩
  have hr : RB wa1 x (leBytes 2 22356) := RV.own hx
  obtain ⟨ya1, za1, rfl⟩ := own_slice hx
  have hxp := own_only HP0.out.1 (Only.new hb fun _ => False) (fun _ _ => id)
  have hB := HP0.out.2.trans (hb.mono HP0.out.2.size)
  have hsz := hB.size
  have HA := Lib.hid hB
  clear hx hb hB HC
  go_wp2_with (at_builtin; (refine wpList_append_RV rfl _ _ 23 rfl w1.heap.size 5 i (.int .u8 0) 1 Try.underlying23 hi hz0 hz1 hz2 rfl (.slice none 0 0) 0 _ rfl hxp _ _ rfl hr (oneCell_u8 _) ?c1 ?c2 ?c3 ?_))
  case c1 => simp only [maxLen, List.length_map, leBytes_length, leAll_length, List.length_cons, List.length_nil, List.length_replicate]; omega
  case c2 => simp only [List.length_map, leBytes_length, leAll_length, List.length_cons, List.length_nil, List.length_replicate]; omega
  case c3 => exact hsz
  intro v' w2 hx hg _
  (try simp only [List.length_map, leBytes_length, leAll_length, List.length_cons, List.length_nil, List.length_replicate, List.nil_append] at hx)
  replace hx : w2.ownsRow w1.heap.size 5 1 v' 2 ((leBytes 2 22356).map u8v) := hx
  have hb := below_pushed HA.out hxp hg hsz (Nat.le_refl _)
  obtain ⟨y2, z2, rfl⟩ := own_slice hx
  have HP1 := Lib.hid (⟨hx, hb⟩ : _ ∧ _)
  clear hx hb hg hxp hr hsz HA HP0
  have hQk := heap_keep HP1.out.2 HQ.out
  have p := cells_at hQk 0 _ rfl
  simp only [List.getElem_toArray, List.getElem_cons_succ, List.getElem_cons_zero] at p
  have hlqk := heap_lt hQk
  have ew : IntKind.u8.wrap (nk : Int) = (nk : Int) := IntWalk.u8_in _ ⟨by omega, by omega⟩
  have hb := (Below.refl w2.heap.size w2).alloc (Nat.le_refl _) (.cells #[.int .u8 nk, .int .u8 0] 5)
  have hr : RV (w2.alloc (.cells #[.int .u8 nk, .int .u8 0] 5)) (.slice (some ⟨w2.heap.size, 0, none⟩) 2 2) [.int .u8 nk, .int .u8 0] := RV.cells (n := 2) (heap_is rfl) rfl (by decide) rfl
  have hx := hb
  clear hQk
  have hxp := own_only HP1.out.1 (Only.new hb fun _ => False) (fun _ _ => id)
  have hB := HP1.out.2.trans (hb.mono HP1.out.2.size)
  have hsz := hB.size
  have HA := Lib.hid hB
  clear hx hb hB 
  go_wp2_with (at_builtin; (refine wpList_append_RV rfl _ _ 23 rfl w1.heap.size 5 i (.int .u8 0) 1 Try.underlying23 hi hz0 hz1 hz2 rfl (.slice y2 2 z2) 2 _ rfl hxp _ _ rfl hr (fun u hu => by simp at hu; rcases hu with rfl | rfl <;> rfl) ?c1 ?c2 ?c3 ?_))
  case c1 => simp only [maxLen, List.length_map, leBytes_length, leAll_length, List.length_cons, List.length_nil, List.length_replicate]; omega
  case c2 => simp only [List.length_map, leBytes_length, leAll_length, List.length_cons, List.length_nil, List.length_replicate]; omega
  case c3 => exact hsz
  intro v' w3 hx hg _
  (try simp only [List.length_map, leBytes_length, leAll_length, List.length_cons, List.length_nil, List.length_replicate, List.nil_append] at hx)
  rw [HS.out.2.2.2, ← List.map_append] at hx
  replace hx : w3.ownsRow w1.heap.size 5 1 v' 4 ((leBytes 2 22356 ++ leAll 1 [nk, 0]).map u8v) := hx
  have hb := below_pushed HA.out hxp hg hsz (Nat.le_refl _)
  obtain ⟨y3, z3, rfl⟩ := own_slice hx
  have HP2 := Lib.hid (⟨hx, hb⟩ : _ ∧ _)
  clear hx hb hg hxp hr hsz HA HP1 p ew hlqk
  -- ne
  have hQk := heap_keep HP2.out.2 HQ.out
  have p := cells_at hQk 1 _ rfl
  simp only [List.getElem_toArray, List.getElem_cons_succ, List.getElem_cons_zero] at p
  have hlqk := heap_lt hQk
  have ew : IntKind.u64.wrap (ne : Int) = (ne : Int) := by rw [IntKind.wrap_u64]; omega
  have hck := bytes_calls 4 ne w3 (by omega) (by omega)
  rw [show ((4 : Nat) : Int) = 4 from rfl] at hck
  have HC := Lib.hid hck
  clear hck hQk
  go_wp2_with fail
  refine HC.out.mono ?_
  rintro e wa3 ⟨x, rfl, hx, hb⟩
  have hr : RB wa3 x (leBytes 4 ne) := RV.own hx
  obtain ⟨ya3, za3, rfl⟩ := own_slice hx
  have hxp := own_only HP2.out.1 (Only.new hb fun _ => False) (fun _ _ => id)
  have hB := HP2.out.2.trans (hb.mono HP2.out.2.size)
  have hsz := hB.size
  have HA := Lib.hid hB
  clear hx hb hB HC p ew hlqk
  go_wp2_with (at_builtin; (refine wpList_append_RV rfl _ _ 23 rfl w1.heap.size 5 i (.int .u8 0) 1 Try.underlying23 hi hz0 hz1 hz2 rfl (.slice y3 4 z3) 4 _ rfl hxp _ _ rfl hr (oneCell_u8 _) ?c1 ?c2 ?c3 ?_))
  case c1 => simp only [maxLen, List.length_map, leBytes_length, leAll_length, List.length_cons, List.length_nil, List.length_replicate]; omega
  case c2 => simp only [List.length_map, leBytes_length, leAll_length, List.length_cons, List.length_nil, List.length_replicate]; omega
  case c3 => exact hsz
  intro v' w4 hx hg _
  (try simp only [List.length_map, leBytes_length, leAll_length, List.length_cons, List.length_nil, List.length_replicate, List.nil_append] at hx)
  rw [← List.map_append] at hx
  replace hx : w4.ownsRow w1.heap.size 5 1 v' 8 ((leBytes 2 22356 ++ leAll 1 [nk, 0] ++ leBytes 4 ne).map u8v) := hx
  have hb := below_pushed HA.out hxp hg hsz (Nat.le_refl _)
  obtain ⟨y4, z4, rfl⟩ := own_slice hx
  have HP3 := Lib.hid (⟨hx, hb⟩ : _ ∧ _)
  clear hx hb hg hxp hr hsz HA HP2
  -- nb
  have hQk := heap_keep HP3.out.2 HQ.out
  have p := cells_at hQk 2 _ rfl
  simp only [List.getElem_toArray, List.getElem_cons_succ, List.getElem_cons_zero] at p
  have hlqk := heap_lt hQk
  have ew : IntKind.u64.wrap (nb : Int) = (nb : Int) := by rw [IntKind.wrap_u64]; omega
  have hck := bytes_calls 4 nb w4 (by omega) (by omega)
  rw [show ((4 : Nat) : Int) = 4 from rfl] at hck
  have HC := Lib.hid hck
  clear hck hQk
  go_wp2_with fail
  refine HC.out.mono ?_
  rintro e wa4 ⟨x, rfl, hx, hb⟩
  have hr : RB wa4 x (leBytes 4 nb) := RV.own hx
  obtain ⟨ya4, za4, rfl⟩ := own_slice hx
  have hxp := own_only HP3.out.1 (Only.new hb fun _ => False) (fun _ _ => id)
  have hB := HP3.out.2.trans (hb.mono HP3.out.2.size)
  have hsz := hB.size
  have HA := Lib.hid hB
  clear hx hb hB HC p ew hlqk
  go_wp2_with (at_builtin; (refine wpList_append_RV rfl _ _ 23 rfl w1.heap.size 5 i (.int .u8 0) 1 Try.underlying23 hi hz0 hz1 hz2 rfl (.slice y4 8 z4) 8 _ rfl hxp _ _ rfl hr (oneCell_u8 _) ?c1 ?c2 ?c3 ?_))
  case c1 => simp only [maxLen, List.length_map, leBytes_length, leAll_length, List.length_cons, List.length_nil, List.length_replicate]; omega
  case c2 => simp only [List.length_map, leBytes_length, leAll_length, List.length_cons, List.length_nil, List.length_replicate]; omega
  case c3 => exact hsz
  intro v' w5 hx hg _
  (try simp only [List.length_map, leBytes_length, leAll_length, List.length_cons, List.length_nil, List.length_replicate, List.nil_append] at hx)
  rw [← List.map_append] at hx
  replace hx : w5.ownsRow w1.heap.size 5 1 v' 12 ((leBytes 2 22356 ++ leAll 1 [nk, 0] ++ leBytes 4 ne ++ leBytes 4 nb).map u8v) := hx
  have hb := below_pushed HA.out hxp hg hsz (Nat.le_refl _)
  obtain ⟨y5, z5, rfl⟩ := own_slice hx
  have HP4 := Lib.hid (⟨hx, hb⟩ : _ ∧ _)
  clear hx hb hg hxp hr hsz HA HP3
  -- ni
  have hQk := heap_keep HP4.out.2 HQ.out
  have p := cells_at hQk 3 _ rfl
  simp only [List.getElem_toArray, List.getElem_cons_succ, List.getElem_cons_zero] at p
  have hlqk := heap_lt hQk
  have ew : IntKind.u64.wrap (ni : Int) = (ni : Int) := by rw [IntKind.wrap_u64]; omega
  have hck := bytes_calls 2 ni w5 (by omega) (by omega)
  rw [show ((2 : Nat) : Int) = 2 from rfl] at hck
  have HC := Lib.hid hck
  clear hck hQk
  go_wp2_with fail
  refine HC.out.mono ?_
  rintro e wa5 ⟨x, rfl, hx, hb⟩
  have hr : RB wa5 x (leBytes 2 ni) := RV.own hx
  obtain ⟨ya5, za5, rfl⟩ := own_slice hx
  have hxp := own_only HP4.out.1 (Only.new hb fun _ => False) (fun _ _ => id)
  have hB := HP4.out.2.trans (hb.mono HP4.out.2.size)
  have hsz := hB.size
  have HA := Lib.hid hB
  clear hx hb hB HC p ew hlqk
  go_wp2_with (at_builtin; (refine wpList_append_RV rfl _ _ 23 rfl w1.heap.size 5 i (.int .u8 0) 1 Try.underlying23 hi hz0 hz1 hz2 rfl (.slice y5 12 z5) 12 _ rfl hxp _ _ rfl hr (oneCell_u8 _) ?c1 ?c2 ?c3 ?_))
  case c1 => simp only [maxLen, List.length_map, leBytes_length, leAll_length, List.length_cons, List.length_nil, List.length_replicate]; omega
  case c2 => simp only [List.length_map, leBytes_length, leAll_length, List.length_cons, List.length_nil, List.length_replicate]; omega
  case c3 => exact hsz
  intro v' w6 hx hg _
  (try simp only [List.length_map, leBytes_length, leAll_length, List.length_cons, List.length_nil, List.length_replicate, List.nil_append] at hx)
  rw [← List.map_append] at hx
  replace hx : w6.ownsRow w1.heap.size 5 1 v' 14 ((leBytes 2 22356 ++ leAll 1 [nk, 0] ++ leBytes 4 ne ++ leBytes 4 nb ++ leBytes 2 ni).map u8v) := hx
  have hb := below_pushed HA.out hxp hg hsz (Nat.le_refl _)
  obtain ⟨y6, z6, rfl⟩ := own_slice hx
  have HP5 := Lib.hid (⟨hx, hb⟩ : _ ∧ _)
  clear hx hb hg hxp hr hsz HA HP4
  -- nc
  have hQk := heap_keep HP5.out.2 HQ.out
  have p := cells_at hQk 4 _ rfl
  simp only [List.getElem_toArray, List.getElem_cons_succ, List.getElem_cons_zero] at p
  have hlqk := heap_lt hQk
  have ew : IntKind.u64.wrap (nc : Int) = (nc : Int) := by rw [IntKind.wrap_u64]; omega
  have hck := bytes_calls 2 nc w6 (by omega) (by omega)
  rw [show ((2 : Nat) : Int) = 2 from rfl] at hck
  have HC := Lib.hid hck
  clear hck hQk
  go_wp2_with fail
  refine HC.out.mono ?_
  rintro e wa6 ⟨x, rfl, hx, hb⟩
  have hr : RB wa6 x (leBytes 2 nc) := RV.own hx
  obtain ⟨ya6, za6, rfl⟩ := own_slice hx
  have hxp := own_only HP5.out.1 (Only.new hb fun _ => False) (fun _ _ => id)
  have hB := HP5.out.2.trans (hb.mono HP5.out.2.size)
  have hsz := hB.size
  have HA := Lib.hid hB
  clear hx hb hB HC p ew hlqk
  go_wp2_with (at_builtin; (refine wpList_append_RV rfl _ _ 23 rfl w1.heap.size 5 i (.int .u8 0) 1 Try.underlying23 hi hz0 hz1 hz2 rfl (.slice y6 14 z6) 14 _ rfl hxp _ _ rfl hr (oneCell_u8 _) ?c1 ?c2 ?c3 ?_))
  case c1 => simp only [maxLen, List.length_map, leBytes_length, leAll_length, List.length_cons, List.length_nil, List.length_replicate]; omega
  case c2 => simp only [List.length_map, leBytes_length, leAll_length, List.length_cons, List.length_nil, List.length_replicate]; omega
  case c3 => exact hsz
  intro v' w7 hx hg _
  (try simp only [List.length_map, leBytes_length, leAll_length, List.length_cons, List.length_nil, List.length_replicate, List.nil_append] at hx)
  rw [← List.map_append] at hx
  replace hx : w7.ownsRow w1.heap.size 5 1 v' 16 ((leBytes 2 22356 ++ leAll 1 [nk, 0] ++ leBytes 4 ne ++ leBytes 4 nb ++ leBytes 2 ni ++ leBytes 2 nc).map u8v) := hx
  have hb := below_pushed HA.out hxp hg hsz (Nat.le_refl _)
  obtain ⟨y7, z7, rfl⟩ := own_slice hx
  have HP6 := Lib.hid (⟨hx, hb⟩ : _ ∧ _)
  clear hx hb hg hxp hr hsz HA HP5
  -- nl
  have hQk := heap_keep HP6.out.2 HQ.out
  have p := cells_at hQk 5 _ rfl
  simp only [List.getElem_toArray, List.getElem_cons_succ, List.getElem_cons_zero] at p
  have hlqk := heap_lt hQk
  have ew : IntKind.u64.wrap (nl : Int) = (nl : Int) := by rw [IntKind.wrap_u64]; omega
  have hck := bytes_calls 4 nl w7 (by omega) (by omega)
  rw [show ((4 : Nat) : Int) = 4 from rfl] at hck
  have HC := Lib.hid hck
  clear hck hQk
  go_wp2_with fail
  refine HC.out.mono ?_
  rintro e wa7 ⟨x, rfl, hx, hb⟩
  have hr : RB wa7 x (leBytes 4 nl) := RV.own hx
  obtain ⟨ya7, za7, rfl⟩ := own_slice hx
  have hxp := own_only HP6.out.1 (Only.new hb fun _ => False) (fun _ _ => id)
  have hB := HP6.out.2.trans (hb.mono HP6.out.2.size)
  have hsz := hB.size
  have HA := Lib.hid hB
  clear hx hb hB HC p ew hlqk
  go_wp2_with (at_builtin; (refine wpList_append_RV rfl _ _ 23 rfl w1.heap.size 5 i (.int .u8 0) 1 Try.underlying23 hi hz0 hz1 hz2 rfl (.slice y7 16 z7) 16 _ rfl hxp _ _ rfl hr (oneCell_u8 _) ?c1 ?c2 ?c3 ?_))
  case c1 => simp only [maxLen, List.length_map, leBytes_length, leAll_length, List.length_cons, List.length_nil, List.length_replicate]; omega
  case c2 => simp only [List.length_map, leBytes_length, leAll_length, List.length_cons, List.length_nil, List.length_replicate]; omega
  case c3 => exact hsz
  intro v' w8 hx hg _
  (try simp only [List.length_map, leBytes_length, leAll_length, List.length_cons, List.length_nil, List.length_replicate, List.nil_append] at hx)
  rw [← List.map_append] at hx
  replace hx : w8.ownsRow w1.heap.size 5 1 v' 20 ((leBytes 2 22356 ++ leAll 1 [nk, 0] ++ leBytes 4 ne ++ leBytes 4 nb ++ leBytes 2 ni ++ leBytes 2 nc ++ leBytes 4 nl).map u8v) := hx
  have hb := below_pushed HA.out hxp hg hsz (Nat.le_refl _)
  obtain ⟨y8, z8, rfl⟩ := own_slice hx
  have HP7 := Lib.hid (⟨hx, hb⟩ : _ ∧ _)
  clear hx hb hg hxp hr hsz HA HP6
  -- nm
  have hQk := heap_keep HP7.out.2 HQ.out
  have p := cells_at hQk 6 _ rfl
  simp only [List.getElem_toArray, List.getElem_cons_succ, List.getElem_cons_zero] at p
  have hlqk := heap_lt hQk
  have ew : IntKind.u64.wrap (nm : Int) = (nm : Int) := by rw [IntKind.wrap_u64]; omega
  have hck := bytes_calls 4 nm w8 (by omega) (by omega)
  rw [show ((4 : Nat) : Int) = 4 from rfl] at hck
  have HC := Lib.hid hck
  clear hck hQk
  go_wp2_with fail
  refine HC.out.mono ?_
  rintro e wa8 ⟨x, rfl, hx, hb⟩
  have hr : RB wa8 x (leBytes 4 nm) := RV.own hx
  obtain ⟨ya8, za8, rfl⟩ := own_slice hx
  have hxp := own_only HP7.out.1 (Only.new hb fun _ => False) (fun _ _ => id)
  have hB := HP7.out.2.trans (hb.mono HP7.out.2.size)
  have hsz := hB.size
  have HA := Lib.hid hB
  clear hx hb hB HC p ew hlqk
  go_wp2_with (at_builtin; (refine wpList_append_RV rfl _ _ 23 rfl w1.heap.size 5 i (.int .u8 0) 1 Try.underlying23 hi hz0 hz1 hz2 rfl (.slice y8 20 z8) 20 _ rfl hxp _ _ rfl hr (oneCell_u8 _) ?c1 ?c2 ?c3 ?_))
  case c1 => simp only [maxLen, List.length_map, leBytes_length, leAll_length, List.length_cons, List.length_nil, List.length_replicate]; omega
  case c2 => simp only [List.length_map, leBytes_length, leAll_length, List.length_cons, List.length_nil, List.length_replicate]; omega
  case c3 => exact hsz
  intro v' w9 hx hg _
  (try simp only [List.length_map, leBytes_length, leAll_length, List.length_cons, List.length_nil, List.length_replicate, List.nil_append] at hx)
  rw [← List.map_append] at hx
  replace hx : w9.ownsRow w1.heap.size 5 1 v' 24 ((leBytes 2 22356 ++ leAll 1 [nk, 0] ++ leBytes 4 ne ++ leBytes 4 nb ++ leBytes 2 ni ++ leBytes 2 nc ++ leBytes 4 nl ++ leBytes 4 nm).map u8v) := hx
  have hb := below_pushed HA.out hxp hg hsz (Nat.le_refl _)
  obtain ⟨y9, z9, rfl⟩ := own_slice hx
  have HP8 := Lib.hid (⟨hx, hb⟩ : _ ∧ _)
  clear hx hb hg hxp hr hsz HA HP7
  have hck := pad_calls (.slice none 0 0) [] 32 w9 (RB.nil _) (by simp) (by omega)
  rw [show ((32 : Nat) : Int) = 32 from rfl, show ([] ++ List.replicate (32 - ([] : List UInt8).length) 0 : List UInt8) = List.replicate 32 0 from rfl] at hck
  have HC := Lib.hid hck
  clear hck
  go_wp2_with fail
  refine HC.out.mono ?_
  rintro e wt ⟨xt, rfl, hxt, hbt⟩
  have ht : RB wt xt (List.replicate 32 0) := RV.own hxt
  replace hxt : wt.ownsRow w9.heap.size 5 1 xt 32 ((List.replicate 32 (0 : UInt8)).map u8v) := by simpa using hxt
  obtain ⟨yt, zt, rfl⟩ := own_slice hxt
  have hxf := own_only HP8.out.1 (Only.new hbt fun _ => False) (fun _ _ => id)
  have hBt := HP8.out.2.trans (hbt.mono HP8.out.2.size)
  have hdt := HD.out.1.below hBt
  have hft : RB wt (.slice y9 24 z9) (leBytes 2 22356 ++ leAll 1 [nk, 0] ++ leBytes 4 ne ++ leBytes 4 nb ++ leBytes 2 ni ++ leBytes 2 nc ++ leBytes 4 nl ++ leBytes 4 nm) := RV.own hxf
  obtain ⟨ff, hff⟩ : ∃ ff, ff = leBytes 2 22356 ++ leAll 1 [nk, 0] ++ leBytes 4 ne ++ leBytes 4 nb ++ leBytes 2 ni ++ leBytes 2 nc ++ leBytes 4 nl ++ leBytes 4 nm := ⟨_, rfl⟩
  rw [← hff] at hxf hft
  have hffl : ff.length = 24 := by have := hxf.1; simpa using this
  simp only [← hff] at HS
  have hf84 : ∃ f2, ff = 84 :: f2 := by rw [hff]; exact ⟨_, rfl⟩
  have HT := Lib.hid (⟨hxf, hBt, hdt, ht, hft, hxt⟩ : _ ∧ _ ∧ _ ∧ _ ∧ _ ∧ _)
  clear hxt ht hxf hBt hdt hft hbt HC HP8 hff
  obtain ⟨tl, htl⟩ : ∃ tl : List UInt8, tl = List.replicate 32 0 := ⟨_, rfl⟩
  simp only [← htl] at HS HT
  have htll : tl.length = 32 := by rw [htl]; simp
  have ht0 : ∃ t2, tl = 0 :: t2 := by rw [htl]; exact ⟨_, rfl⟩
  have H84 := Lib.hid (⟨hf84, ht0⟩ : _ ∧ _)
  clear hf84 ht0
  clear htl
  have HAl0 := Lib.hid (⟨World.ownsRow_nil wt wt.heap.size 5 1, Below.refl wt.heap.size wt⟩ : _ ∧ _)
  have hxp := HAl0.out.1
  have hr := HT.out.2.2.2.2.1.below HAl0.out.2
  have hsz := HAl0.out.2.size
  go_wp2_with (at_builtin; (refine wpList_append_RV rfl _ _ 23 rfl wt.heap.size 5 i (.int .u8 0) 1 Try.underlying23 hi hz0 hz1 hz2 rfl (.slice none 0 0) 0 _ rfl hxp _ _ rfl hr (oneCell_u8 _) ?c1 ?c2 ?c3 ?_))
  case c1 => simp only [maxLen, List.length_map]; omega
  case c2 => simp only [List.length_map]; omega
  case c3 => exact hsz
  intro v' wl1 hx hg _
  (try simp only [List.length_map, List.nil_append, Nat.zero_add, hffl] at hx)
  have hb := below_pushed HAl0.out.2 hxp hg hsz (Nat.le_refl _)
  obtain ⟨yl1, zl1, rfl⟩ := own_slice hx
  have HAl1 := Lib.hid (⟨hx, hb⟩ : _ ∧ _)
  clear hx hb hg hxp hr hsz HAl0
  have hxp := HAl1.out.1
  have hr := HT.out.2.2.1.below HAl1.out.2
  have hsz := HAl1.out.2.size
  go_wp2_with (at_builtin; (refine wpList_append_RV rfl _ _ 23 rfl wt.heap.size 5 i (.int .u8 0) 1 Try.underlying23 hi hz0 hz1 hz2 rfl (.slice yl1 (24) zl1) (24) _ rfl hxp _ _ rfl hr (oneCell_u8 _) ?c1 ?c2 ?c3 ?_))
  case c1 => simp only [maxLen, List.length_map]; omega
  case c2 => simp only [List.length_map]; omega
  case c3 => exact hsz
  intro v' wl2 hx hg _
  (try simp only [List.length_map, List.nil_append, Nat.zero_add] at hx)
  rw [← List.map_append] at hx
  have hb := below_pushed HAl1.out.2 hxp hg hsz (Nat.le_refl _)
  obtain ⟨yl2, zl2, rfl⟩ := own_slice hx
  have HAl2 := Lib.hid (⟨hx, hb⟩ : _ ∧ _)
  clear hx hb hg hxp hr hsz HAl1
  have hxp := HAl2.out.1
  have hr := HT.out.2.2.2.1.below HAl2.out.2
  have hsz := HAl2.out.2.size
  go_wp2_with (at_builtin; (refine wpList_append_RV rfl _ _ 23 rfl wt.heap.size 5 i (.int .u8 0) 1 Try.underlying23 hi hz0 hz1 hz2 rfl (.slice yl2 ((24) + data.length) zl2) ((24) + data.length) _ rfl hxp _ _ rfl hr (oneCell_u8 _) ?c1 ?c2 ?c3 ?_))
  case c1 => simp only [maxLen, List.length_map]; omega
  case c2 => simp only [List.length_map]; omega
  case c3 => exact hsz
  intro v' wl3 hx hg _
  (try simp only [List.length_map, List.nil_append, Nat.zero_add, htll] at hx)
  rw [← List.map_append] at hx
  have hb := below_pushed HAl2.out.2 hxp hg hsz (Nat.le_refl _)
  obtain ⟨yl3, zl3, rfl⟩ := own_slice hx
  have HAl3 := Lib.hid (⟨hx, hb⟩ : _ ∧ _)
  clear hx hb hg hxp hr hsz HAl2
  have hal : RB wl3 (.slice yl3 (24 + data.length + 32) zl3) (ff ++ data ++ tl) := by
    have := RV.own HAl3.out.1
    show RV _ _ _
    simpa only [List.map_append, List.append_assoc] using this
  have hof := ref_of _ _ wl3 hal
  rw [HS.out.2.1] at hof
  unfold u32v at hof
  rw [BitVec.toNat_ofNat, Nat.mod_eq_of_lt HS.out.2.2.1] at hof
  have HC := Lib.hid hof
  have hs32 := HS.out.2.2.1
  have ew : IntKind.u64.wrap (s : Int) = (s : Int) := by rw [IntKind.wrap_u64]; omega
  clear hof hal
  go_wp2_with fail
  refine HC.out.mono ?_
  rintro e wx ⟨rfl, rfl⟩
  have hck := bytes_calls 4 s wl3 (by omega) (by omega)
  rw [show ((4 : Nat) : Int) = 4 from rfl] at hck
  have HC2 := Lib.hid hck
  clear hck HC
  go_wp2_with fail
  refine HC2.out.mono ?_
  rintro e ws ⟨x, rfl, hx, hb⟩
  have hr : RB ws x (leBytes 4 s) := RV.own hx
  obtain ⟨ys, zs, rfl⟩ := own_slice hx
  have hbts := HAl3.out.2.trans (hb.mono HAl3.out.2.size)
  have hxp := own_only HT.out.1 (Only.new hbts fun _ => False) (fun _ _ => id)
  have hB := HT.out.2.1.trans (hbts.mono HT.out.2.1.size)
  have hsz := hB.size
  have htS := own_only HT.out.2.2.2.2.2 (Only.new hbts fun _ => False) (fun _ _ => id)
  have hdf : ∀ (wx : World) (B1 B2 : Nat) (v u : Value) (n m : Nat) (rest : List UInt8), wx.ownsRow B1 5 1 v n ((ff ++ rest).map u8v) → wx.ownsRow B2 5 1 u m (tl.map u8v) → u.ownBlock = none ∨ u.ownBlock ≠ v.ownBlock := fun _ _ _ _ _ _ _ _ h1 h2 => by
    obtain ⟨⟨f2, e1⟩, t2, e2⟩ := H84.out
    rw [e1] at h1
    rw [e2] at h2
    exact .inr (own_diff h1 h2 (by intro h; cases h))
  have hd1 := hdf _ _ _ _ _ _ _ [] (by rw [List.append_nil]; exact hxp) htS
  have HA := Lib.hid (⟨hB, htS, hd1⟩ : _ ∧ _ ∧ _)
  have HDF := Lib.hid hdf
  clear hx hb hB hbts htS HC2 HAl3 HT ew hdf hd1
  go_wp2_with (at_builtin; (refine wpList_append_RV rfl _ _ 23 rfl w1.heap.size 5 i (.int .u8 0) 1 Try.underlying23 hi hz0 hz1 hz2 rfl (.slice y9 24 z9) 24 _ rfl hxp _ _ rfl hr (oneCell_u8 _) ?c1 ?c2 ?c3 ?_))
  case c1 => simp only [maxLen, List.length_map, leBytes_length]; omega
  case c2 => simp only [List.length_map, leBytes_length]; omega
  case c3 => exact hsz
  intro v' wA hx hg _
  (try simp only [List.length_map, leBytes_length] at hx)
  rw [← List.map_append] at hx
  replace hx : wA.ownsRow w1.heap.size 5 1 v' 28 ((ff ++ leBytes 4 s).map u8v) := hx
  have hb := below_pushed HA.out.1 hxp hg hsz (Nat.le_refl _)
  have htA := HA.out.2.1.kept hg HA.out.2.2
  obtain ⟨yA, zA, rfl⟩ := own_slice hx
  have HPA := Lib.hid (⟨hx, hb, htA⟩ : _ ∧ _ ∧ _)
  clear hx hb hg hxp hr hsz htA HA
  have hzc := zeros_calls 4 wA (by omega)
  obtain ⟨z4, hz4⟩ : ∃ z4 : List UInt8, z4 = List.replicate 4 0 := ⟨_, rfl⟩
  have hz4l : z4.length = 4 := by rw [hz4]; simp
  rw [← hz4] at HS
  rw [show ((4 : Nat) : Int) = 4 from rfl] at hzc
  have HC := Lib.hid hzc
  clear hzc
  go_wp2_with fail
  refine HC.out.mono ?_
  rintro e wz ⟨rfl, hwz⟩
  have hbz : Below wA.heap.size wA wz := by rw [hwz]; exact (Below.refl _ _).alloc (Nat.le_refl _) _
  have hr : RB wz (.slice (some ⟨wA.heap.size, 0, none⟩) 4 4) z4 := by rw [hwz, rep_u8, hz4]; exact RB.block (heap_new _ _) (by simp) (Nat.le_refl _) (by unfold maxLen; omega)
  clear hz4
  have hxp := own_only HPA.out.1 (Only.new hbz fun _ => False) (fun _ _ => id)
  have htz := own_only HPA.out.2.2 (Only.new hbz fun _ => False) (fun _ _ => id)
  have hB := HPA.out.2.1.trans (hbz.mono HPA.out.2.1.size)
  have hd1 := HDF.out _ _ _ _ _ _ _ _ hxp htz
  have hsz := hB.size
  have HA := Lib.hid (⟨hB, htz, hd1⟩ : _ ∧ _ ∧ _)
  clear hbz htz hB hd1 HC HPA hwz
  generalize wA.heap.size = za at hr ⊢

  go_wp2_with (at_builtin; (refine wpList_append_RV rfl _ _ 23 rfl w1.heap.size 5 i (.int .u8 0) 1 Try.underlying23 hi hz0 hz1 hz2 rfl (.slice yA 28 zA) 28 _ rfl hxp _ _ rfl hr (oneCell_u8 _) ?c1 ?c2 ?c3 ?_))
  case c1 => simp only [maxLen, List.length_map]; omega
  case c2 => simp only [List.length_map]; omega
  case c3 => exact hsz
  intro v' wB hx hg _
  (try simp only [List.length_map, hz4l] at hx)
  rw [← List.map_append, ← List.map_append] at hx
  replace hx : wB.ownsRow w1.heap.size 5 1 v' 32 ((ff ++ (leBytes 4 s ++ z4)).map u8v) := hx
  have hb := below_pushed HA.out.1 hxp hg hsz (Nat.le_refl _)
  have htB := HA.out.2.1.kept hg HA.out.2.2
  obtain ⟨yB, zB, rfl⟩ := own_slice hx
  have hr : RB wB (.slice yt 32 zt) tl := RV.own htB
  have hxp := hx
  have hsz := hb.size
  have HA2 := Lib.hid hb
  clear hx hb hg htB HA

  go_wp2_with (at_builtin; (refine wpList_append_RV rfl _ _ 23 rfl w1.heap.size 5 i (.int .u8 0) 1 Try.underlying23 hi hz0 hz1 hz2 rfl (.slice yB 32 zB) 32 _ rfl hxp _ _ rfl hr (oneCell_u8 _) ?c1 ?c2 ?c3 ?_))
  case c1 => simp only [maxLen, List.length_map]; omega
  case c2 => simp only [List.length_map]; omega
  case c3 => exact hsz
  intro v' wE hx hg _
  (try simp only [List.length_map, htll] at hx)
  have hx' : wE.ownsRow w1.heap.size 5 1 v' 64 ((sealB ⟨nk, ne, nb, ni, nc, nl, nm⟩ data []).map u8v) := by
    rw [HS.out.1]; simpa only [List.map_append, List.append_assoc] using hx
  have hb := HD.out.2.trans ((below_pushed HA2.out hxp hg hsz (Nat.le_refl _)).mono HD.out.2.size)
  have HE := Lib.hid (HF.out v' wE (own_mono hx' HD.out.2.size) hb)
  clear hx hx' hb hg hxp hr hsz HA2
  go_wp2_with fail
  exact HE.out
end Go.Proofs.Ytogejjbclimjjaa
