/- the reference's New. -/
--only r2
import Derived.Test.YtphnjiokihbhnaaRefMake
namespace Go.Proofs.Ytphnjiokihbhnaa
set_option linter.unusedVariables false
set_option linter.unusedSimpArgs false
open Go.RowKit

theorem infoRBlk : (Try.prog.info? 66).map (fun i => (i.zero, i.size, i.bytes)) = some (some (.agg #[.slice none 0 0, .int .i64 0, .int .i64 0, .bool false]), 4, 48) := by kernel_rfl
theorem infoRBlkS : (Try.prog.info? 67).map (fun i => (i.zero, i.size, i.bytes)) = some (some (.slice none 0 0), 1, 24) := by kernel_rfl
theorem infoByS : (Try.prog.info? 31).map (fun i => (i.zero, i.size, i.bytes)) = some (some (.slice none 0 0), 1, 24) := by kernel_rfl

/-- a row of blocks that is being made -/
structure RIn (b p q : Nat) (wo : World) (j : Nat) (pk : Nat → Nat) (t : Nat → Option Nat) (lv : Value) (wi : World) : Prop where
  bel : Below q wo wi
  row : wi.ownsRow q 66 4 lv j ((List.range (j * 4)).map (rblk pk p))
  nb : RowNB wi lv
  pgs : ∀ i, i < j → Row wi (pk i) p fun _ => nilV
  ht : ∀ i, i < j → t (pk i) = some i
  htq : ∀ x, t x ≠ none → (∃ i, i < j ∧ x = pk i ∧ t x = some i) ∧ q ≤ x ∧ x < wi.heap.size
  htl : ∀ g, lv.ownBlock = some g → t g = none
  ge : q ≤ wi.heap.size
theorem rblk_succ (pk : Nat → Nat) (p j r : Nat) : (List.range ((j + 1) * 4)).map (rblk (upd1 pk j r) p) = (List.range (j * 4)).map (rblk pk p) ++ [.slice (some ⟨r, 0, none⟩) p p, .int .i64 0, .int .i64 0, .bool false] := by
  rw [show (j + 1) * 4 = j * 4 + 1 + 1 + 1 + 1 by omega, List.range_succ, List.range_succ, List.range_succ, List.range_succ]
  simp only [List.map_append, List.append_assoc, List.map_cons, List.map_nil, List.cons_append, List.nil_append]
  congr 1
  · apply List.map_congr_left
    intro o ho
    have := List.mem_range.mp ho
    unfold rblk
    rw [upd1_other (by omega)]
  · have e0 : rblk (upd1 pk j r) p (j * 4) = .slice (some ⟨r, 0, none⟩) p p := by
      unfold rblk; rw [if_pos (by omega), show j * 4 / 4 = j by omega, upd1_same]
    have e1 : rblk (upd1 pk j r) p (j * 4 + 1) = .int .i64 0 := by
      unfold rblk; rw [if_neg (by omega), if_pos (by omega)]
    have e2 : rblk (upd1 pk j r) p (j * 4 + 1 + 1) = .int .i64 0 := by
      unfold rblk; rw [if_neg (by omega), if_neg (by omega), if_pos (by omega)]
    have e3 : rblk (upd1 pk j r) p (j * 4 + 1 + 1 + 1) = .bool false := by
      unfold rblk; rw [if_neg (by omega), if_neg (by omega), if_neg (by omega)]
    rw [e0, e1, e2, e3]
theorem RIn.step {b p q : Nat} {wo : World} {j : Nat} {pk : Nat → Nat} {t : Nat → Option Nat} {lv lv' : Value} {wi wb wc : World} (h : RIn b p q wo j pk t lv wi)
    (hb : Below wi.heap.size wi wb) (hsz : wi.heap.size < wb.heap.size) (hpg : Row wb wi.heap.size p fun _ => nilV) (hrow : wc.ownsRow q 66 4 lv' (j + 1) ((List.range (j * 4)).map (rblk pk p) ++ [.slice (some ⟨wi.heap.size, 0, none⟩) p p, .int .i64 0, .int .i64 0, .bool false]))
    (hg : wb.grownBy wc lv.ownBlock) (hnb : RowNB wc lv') (hnew : ∀ g, lv'.ownBlock = some g → lv.ownBlock = some g ∨ wb.heap.size ≤ g) :
    RIn b p q wo (j + 1) (upd1 pk j wi.heap.size) (fun x => if x = wi.heap.size then some j else t x) lv' wc := by
  have hO := Only.of_grown hg
  have hlt : ∀ x, lv.ownBlock = some x → q ≤ x ∧ x < wi.heap.size := fun x hx => h.row.lt x hx
  have hge := h.ge
  have hO2 : Only (fun x => lv.ownBlock = some x) wi wc := (Only.new hb _).trans hO fun _ _ h => h
  have hsc := hO.size
  refine ⟨h.bel.trans (hO2.below hge fun x hx hh => by have := (hlt x hh).1; omega), by rw [rblk_succ]; exact hrow, hnb, fun i hi => ?_, fun i hi => ?_, fun x hx => ?_, fun g hg' => ?_, by omega⟩
  · by_cases e : i = j
    · subst e; rw [upd1_same]; exact hpg.only hO fun hh => by have := (hlt _ hh).2; omega
    · rw [upd1_other e]
      refine (h.pgs i (by omega)).only hO2 fun hh => ?_
      have := h.htl _ hh
      rw [h.ht i (by omega)] at this; cases this
  · by_cases e : i = j
    · subst e; rw [upd1_same]; exact if_pos rfl
    · rw [upd1_other e]
      have h1 := h.ht i (by omega)
      have h2 := (h.htq (pk i) (by rw [h1]; simp)).2.2
      show (if pk i = wi.heap.size then some j else t (pk i)) = some i
      rw [if_neg (by omega)]; exact h1
  · by_cases e : x = wi.heap.size
    · rw [if_pos e]; exact ⟨⟨j, by omega, by rw [upd1_same]; exact e, rfl⟩, by omega, by omega⟩
    · rw [if_neg e] at hx ⊢
      obtain ⟨⟨i, hi, h1, h2⟩, h3, h4⟩ := h.htq x hx
      exact ⟨⟨i, by omega, by rw [upd1_other (by omega)]; exact h1, h2⟩, h3, by omega⟩
  · rcases hnew g hg' with h1 | h1
    · rw [if_neg (by have := (hlt g h1).2; omega)]; exact h.htl g h1
    · rw [if_neg (by omega)]
      by_cases e : t g = none
      · exact e
      · have := (h.htq g e).2.2; omega

def RNewEnds (c b p s : Nat) (bads : List (Int × Int)) (xs : List Ev) (ea : Option Addr) (w : World) (e : Ending) (w' : World) : Prop :=
  ∃ L, e = .returned (ptrV L.p) ∧ NdAt false w' L (Nd.fresh c b p s (badOf bads) xs) ∧ (∀ x, L.tag x ≠ .none → L.tag x ≠ .evs → w.heap.size ≤ x) ∧ Below w.heap.size w w' ∧ L.ea = ea

set_option maxRecDepth 100000 in
set_option maxHeartbeats 4000000 in
theorem rnew_calls (c b p s : Nat) (vb : Value) (bads : List (Int × Int)) (ea : Option Addr) (ec : Nat) (xs : List Ev) (w : World) (hb : RPair w vb bads) (hbl : bads.length ≤ 100000) (he : REv w ea ec xs (fun _ => True)) (hg : geoOk c b p s) (hxl : xs.length ≤ 200) (hxo : evsOk xs) (hbo : badsOk c b bads) :
    Calls Try.prog 15 #[.int .i64 c, .int .i64 b, .int .i64 p, .int .i64 s, vb, .slice ea xs.length ec] w (RNewEnds c b p s bads xs ea w) := by
  have HG := Lib.hid hg
  obtain ⟨g1, g2, g3, g4, g5, g6, g7, g8, g9⟩ := hg
  have HG9 := Lib.hid g9
  clear g9
  obtain ⟨pb, hpb⟩ : ∃ pb, pb = w.heap.size := ⟨_, rfl⟩
  have htop : (w.alloc (.cells #[.int .i64 c, .int .i64 b, .int .i64 p, .int .i64 s, .slice none 0 0, .slice none 0 0, .slice ea xs.length ec, .int .i64 0, .bool false] 61)).heap[pb]? = some (.cells #[.int .i64 c, .int .i64 b, .int .i64 p, .int .i64 s, .slice none 0 0, .slice none 0 0, .slice ea xs.length ec, .int .i64 0, .bool false] 61 (0, 0)) := heap_is hpb
  have hbel := (Below.refl w.heap.size w).alloc (Nat.le_refl _) (.cells #[.int .i64 c, .int .i64 b, .int .i64 p, .int .i64 s, .slice none 0 0, .slice none 0 0, .slice ea xs.length ec, .int .i64 0, .bool false] 61)
  have hinv : RInv c b p s pb ea ec xs w (fun x => xs ≠ [] ∧ ea.map (·.block) = some x) 0 (fun _ => 0) (fun _ => 0) (fun _ _ => 0) (fun x => if x = pb then .top else if x < w.heap.size ∧ (xs ≠ [] ∧ ea.map (·.block) = some x) then .evs else .none) (.slice none 0 0) (.slice none 0 0) (w.alloc (.cells #[.int .i64 c, .int .i64 b, .int .i64 p, .int .i64 s, .slice none 0 0, .slice none 0 0, .slice ea xs.length ec, .int .i64 0, .bool false] 61)) := by
    refine ⟨hbel, by omega, htop, World.ownsRow_nil _ _ _ _, fun g h => by simp [Value.ownBlock] at h, World.ownsRow_nil _ _ _ _, RowNB.nil _, fun g h => by simp [Value.ownBlock] at h, fun i hi => by omega, fun i hi => by omega, fun i j hi => by omega, fun x hx => ?_, if_pos rfl, fun i hi => by omega, fun i j hi => by omega, fun x hx => ?_, fun x hx => ?_⟩
    · obtain ⟨h1, h2⟩ := hx
      have hlt : x < w.heap.size := by
        obtain ⟨-, -, -, h4⟩ := he
        obtain ⟨b', o, h5, -, h6⟩ := h4.resolve_left h1
        obtain ⟨v, c0, -⟩ := h6 0 (by cases xs; exact absurd rfl h1; simp)
        rw [h5] at h2
        have h2 : some b' = some x := h2
        cases h2
        exact cell_lt c0
      rw [if_neg (by omega), if_pos ⟨hlt, h1, h2⟩]
    · by_cases e1 : x = pb
      · exact .inl e1
      · rw [if_neg e1] at hx
        split at hx <;> simp [Tag.mut] at hx
    · by_cases e1 : x = pb
      · subst e1; exact ⟨heap_lt htop, fun _ => by omega⟩
      · rw [if_neg e1] at hx ⊢
        by_cases e2 : x < w.heap.size ∧ (xs ≠ [] ∧ ea.map (·.block) = some x)
        · rw [if_pos e2]; exact ⟨by have := hbel.size; omega, fun h => absurd rfl h⟩
        · rw [if_neg e2] at hx; exact absurd rfl hx
  have HX := Lib.hid (⟨hb, he, hbo⟩ : _ ∧ _ ∧ _)
  clear hb he hbo hbel htop
  generalize hwa : w.alloc (.cells #[.int .i64 c, .int .i64 b, .int .i64 p, .int .i64 s, .slice none 0 0, .slice none 0 0, .slice ea xs.length ec, .int .i64 0, .bool false] 61) = wa at hinv
  have hmk : ∀ w, (Instr.makeSlice 64 (.int .i64 p) (.int .i64 p)).run Try.prog w = .ok (.slice (some ⟨w.heap.size, 0, none⟩) p p) (w.alloc (.cells (madeCells #[.slice none 0 0] p) 31)) := fun w => by
    have := make_any Try.underlying64 infoByS p (by omega) (by omega) w
    rw [Nat.mul_one] at this; exact this
  go_enter Try.func15, Try.ntmps15
  go_wp2_with fail
  rw [← hpb]
  have HPB := Lib.hid hpb
  clear hpb
  go_loopw [14] (fun i wr => ∃ k : Nat, k ≤ c + 1 ∧ i = .int .i64 k ∧ ∃ cb bc pj tag cv dv, RInv c b p s pb ea ec xs w (fun x => xs ≠ [] ∧ ea.map (·.block) = some x) k cb bc pj tag cv dv wr) (fun i _ => c + 1 - (intOf i).toNat)
  case atStart => exact ⟨0, Nat.zero_le _, rfl, _, _, _, _, _, _, hinv⟩
  case round =>
    clear hinv hwa
    obtain ⟨k, hk, rfl, cb, bc, pj, tag, cv, dv, hI⟩ := hrel
    generalize wr = wo at hI ⊢
    by_cases hlt : k < c + 1
    · have hlt' : (k : Int) < (c : Int) + 1 := by omega
      have hlt2 : (k : Int) ≤ (c : Int) := by omega
      obtain ⟨q, hq⟩ : ∃ q, q = wo.heap.size := ⟨_, rfl⟩
      have hin : RIn b p q wo 0 (fun _ => 0) (fun _ => none) (.slice none 0 0) wo :=
        ⟨by rw [hq]; exact Below.refl _ _, World.ownsRow_nil _ _ _ _, RowNB.nil _, fun i hi => by omega, fun i hi => by omega, fun x hx => absurd rfl hx, fun g h => rfl, by omega⟩
      have HI := Lib.hid hI
      have HQ := Lib.hid hq
      clear hI hq
      go_wp2_with fail
      go_loopw [15, 16] (fun l i wi => ∃ j : Nat, j ≤ b ∧ i = .int .i64 j ∧ ∃ pk t, RIn b p q wo j pk t l wi) (fun l i _ => b - (intOf i).toNat)
      case atStart => exact ⟨0, Nat.zero_le _, rfl, _, _, hin⟩
      case round =>
        clear hin
        obtain ⟨j, hj, rfl, pk, t, hJ⟩ := hrel
        by_cases hjl : j < b
        · have hj' : (j : Int) < (b : Int) := by omega
          obtain ⟨ti, hti, hz0, hz1, hz2⟩ := info_parts infoRBlk
          obtain ⟨la, lk, rfl⟩ := own_slice hJ.row
          have HJ := Lib.hid hJ
          have hrow := hJ.row
          have hnb := hJ.nb
          have hge := hJ.ge
          clear hJ
          have hA1 := (Below.refl wr.heap.size wr).alloc (Nat.le_refl _) (.cells (madeCells #[.slice none 0 0] p) 31)
          have hA2 := hA1.alloc hA1.size (.cells #[.slice (some ⟨wr.heap.size, 0, none⟩) p p, .int .i64 0, .int .i64 0, .bool false] 66)
          have hpg : Row (wr.alloc (.cells (madeCells #[.slice none 0 0] p) 31)) wr.heap.size p fun _ => nilV := by
            have := Row.made (z := #[Value.slice none 0 0]) (w := wr) (n := p) (t := 31) rfl (by decide) (fun v hv => by simp at hv; subst hv; exact nb_slice _ _ _)

            exact this.congr fun o ho => by simp [nilV, Nat.mod_one]
          have hpg2 := hpg.below ((Below.refl _ (wr.alloc (.cells (madeCells #[.slice none 0 0] p) 31))).alloc (Nat.le_refl _) (.cells #[.slice (some ⟨wr.heap.size, 0, none⟩) p p, .int .i64 0, .int .i64 0, .bool false] 66))
          have HP2 := Lib.hid hpg2
          clear hpg hpg2
          have hrow2 := (hrow.alloc (.cells (madeCells #[.slice none 0 0] p) 31)).alloc (.cells #[.slice (some ⟨wr.heap.size, 0, none⟩) p p, .int .i64 0, .int .i64 0, .bool false] 66)
          have hnb2 := RowNB.alloc (hrow.alloc (.cells (madeCells #[.slice none 0 0] p) 31)) (RowNB.alloc hrow hnb (.cells (madeCells #[.slice none 0 0] p) 31)) (.cells #[.slice (some ⟨wr.heap.size, 0, none⟩) p p, .int .i64 0, .int .i64 0, .bool false] 66)
          have hR2 : ((wr.alloc (.cells (madeCells #[.slice none 0 0] p) 31)).alloc (.cells #[.slice (some ⟨wr.heap.size, 0, none⟩) p p, .int .i64 0, .int .i64 0, .bool false] 66)).heap[wr.heap.size + 1]? = some (.cells #[.slice (some ⟨wr.heap.size, 0, none⟩) p p, .int .i64 0, .int .i64 0, .bool false] 66 (0, 0)) := heap_is (by simp)
          have hsz2 : wr.heap.size + 2 = ((wr.alloc (.cells (madeCells #[.slice none 0 0] p) 31)).alloc (.cells #[.slice (some ⟨wr.heap.size, 0, none⟩) p p, .int .i64 0, .int .i64 0, .bool false] 66)).heap.size := by simp
          have HS2 := Lib.hid hsz2
          clear hsz2
          go_wp2_with (at_builtin; refine wpList_append_nb _ rfl _ _ 67 rfl q 66 ti (.agg #[.slice none 0 0, .int .i64 0, .int .i64 0, .bool false]) 4 48 Try.underlying67 hti hz0 hz1 hz2 rfl (by decide) (.slice la j lk) j ((List.range (j * 4)).map (rblk pk p)) rfl hrow2 ⟨wr.heap.size + 1, 0, none⟩ 1 1 [.slice (some ⟨wr.heap.size, 0, none⟩) p p, .int .i64 0, .int .i64 0, .bool false] rfl rfl ?c1 ?c2 ?c3 ?c4 ?c5 hnb2 ?c7 ?c8 ?_)
          case c1 =>
            intro x u hx
            rw [add_plain, Nat.zero_add]
            exact cells_at hR2 x u (by simpa using hx)
          case c2 => intro u hu; simp at hu; rcases hu with rfl | rfl | rfl <;> rfl
          case c3 => simp only [maxLen]; omega
          case c4 => omega
          case c5 => rw [← HS2.out]; omega
          case c7 => intro u hu; simp [Value.cells] at hu; rcases hu with rfl | rfl | rfl; exact nb_slice _ _ _; exact nb_i64 _; exact nb_bool _
          case c8 => intro u hu; simp at hu; rcases hu with rfl | rfl | rfl; exact nb_slice _ _ _; exact nb_i64 _; exact nb_bool _
          intro lv' wc h1 h2 h3 h4
          have hst := HJ.out.step hA2 (by rw [← HS2.out]; omega) HP2.out h1 h2 h3 (fun g h => (h4 g h).imp_right fun h => by rw [← HS2.out]; omega)
          have HST := Lib.hid hst
          obtain ⟨la', lk', rfl⟩ := own_slice h1
          clear h1 h2 h3 h4 hst hrow2 hnb2 hR2 hA1 hA2 hrow hnb
          go_wp2_with fail
          go_roundw
          case rel => exact ⟨j + 1, by omega, by go_num, _, _, HST.out⟩
          case measure => simp [intOf]; omega
        · obtain rfl : j = b := by omega
          have hI := HI.out
          have hq := HQ.out
          rcases hJ.row.2 with ⟨_, h0⟩ | ⟨g, cap, cur, rfl, hgb, hgg, hnc, hcm, hcs, htk⟩
          · omega
          have hrow : Row wr g (j * 4) (rblk pk p) := by
            refine ⟨cur, _, hgg, fun o ho => ?_, fun o u hu => ?_⟩
            · have h2 : (cur.toList.take (j * 4))[o]? = some (rblk pk p o) := by
                rw [htk, List.getElem?_map, List.getElem?_range ho]; rfl
              rw [List.getElem?_take, if_pos ho] at h2
              have h3 : cur[o]? = some (rblk pk p o) := by simpa using h2
              exact h3
            · exact hJ.nb g cur _ _ rfl hgg _ (Array.mem_toList_iff.mpr (Array.mem_of_getElem? hu)) u rfl
          have htg := hJ.htl g rfl
          obtain ⟨ca, ck, rfl⟩ := own_slice hI.row
          obtain ⟨da, dk, rfl⟩ := own_slice hI.drow
          have hpq : pb < q := by rw [hq]; exact heap_lt hI.top
          have hpw := hI.top
          rw [← hJ.bel.block pb hpq] at hpw
          have hp4 := cells_at hpw 4 _ rfl
          have hp4f := froz_at hpw 4
          simp only [List.getElem_toArray, List.getElem_cons_succ, List.getElem_cons_zero] at hp4
          have hlp := heap_lt hpw
          have hltc : ∀ x, (Value.slice ca k ck).ownBlock = some x → x < q := fun x hx => by rw [hq]; exact (hI.lt x (by rw [hI.rowt x hx]; simp)).1
          have hltd : ∀ x, (Value.slice da k dk).ownBlock = some x → x < q := fun x hx => by rw [hq]; exact (hI.lt x (by rw [hI.dt x hx]; simp)).1
          have hrw : wr.ownsRow w.heap.size 67 1 (.slice ca k ck) k (rchips cb bc j k) := own_only hI.row (Only.of_below hJ.bel) fun x hx (hqx : q ≤ x) => by have := hltc x hx; omega
          have hdw : wr.ownsRow w.heap.size 4 1 (.slice da k dk) k (List.replicate k (.bool false)) := own_only hI.drow (Only.of_below hJ.bel) fun x hx (hqx : q ≤ x) => by have := hltd x hx; omega
          have hdn : RowNB wr (.slice da k dk) := RowNB.only hI.drow hI.dnb (Only.of_below hJ.bel) fun x hx (hqx : q ≤ x) => by have := hltd x hx; omega
          have hwq : w.heap.size ≤ q := by rw [hq]; exact hI.bel.size
          have hqr := hJ.ge
          obtain ⟨ti, hti, hz0, hz1, hz2⟩ := info_parts infoRBlkS
          obtain ⟨tj, htj, hy0, hy1, hy2⟩ := info_parts infoBool
          have HJ := Lib.hid hJ
          have HCP := Lib.hid (⟨hnc, hcm⟩ : _ ∧ _)
          have HM := Lib.hid (⟨hrow, hltc, hltd, hdw, hdn, hpw, htg⟩ : _ ∧ _ ∧ _ ∧ _ ∧ _ ∧ _ ∧ _)
          clear hrow hltc hltd hdw hdn hpw htg hJ hI hq hgg hcs htk hnc hcm hgb
          go_wp2_with (at_builtin; (refine wpList_append_row rfl _ _ 58 rfl w.heap.size 67 ti (.slice none 0 0) 24 Try.underlying58 hti hz0 hz1 hz2 rfl (.slice ca k ck) k (rchips cb bc j k) rfl (hrw.alloc _) (.slice (some ⟨wr.heap.size, 0, none⟩) 1 1) [.slice (some ⟨g, 0, none⟩) j cap] rfl (RV.single' _ _) (one_cell rfl) ?c3 ?c4 (by simp; omega) ?_))
          case c3 => simp; unfold maxLen; omega
          case c4 => simp; omega
          intro cv' w5 hown hg hnew
          obtain ⟨hrow, hltc, hltd, hdw, hdn, hpw, htg⟩ := HM.out
          have hI := HI.out
          have hb4 := (Below.refl wr.heap.size wr).alloc (Nat.le_refl _) (.cells #[.slice (some ⟨g, 0, none⟩) j cap] 67)
          have hOg := Only.of_grown hg
          have hpc : ¬ (Value.slice ca k ck).ownBlock = some pb := fun hx => by have := hI.rowt pb hx; rw [hI.tp] at this; cases this
          have hpd : ¬ (Value.slice da k dk).ownBlock = some pb := fun hx => by have := hI.dt pb hx; rw [hI.tp] at this; cases this
          have hcd : ∀ x, (Value.slice da k dk).ownBlock = some x → ¬ (Value.slice ca k ck).ownBlock = some x := fun x h1 h2 => by have := hI.rowt x h2; rw [hI.dt x h1] at this; cases this
          have hp5 := hOg.at (heap_keep hb4 hpw) hpc
          obtain ⟨ca', ck', rfl⟩ := own_slice hown
          have hn4 := cells_at hp5 4 _ rfl
          have hn4f := froz_at hp5 4
          have hn5 := cells_at hp5 5 _ rfl
          have hn5f := froz_at hp5 5
          have hlp5 := heap_lt hp5
          simp only [List.getElem_toArray, List.getElem_cons_succ, List.getElem_cons_zero] at hn4 hn5
          have hp6 := set_at (o := 4) hp5 (.slice ca' (k + 1) ck')
          simp only [List.setIfInBounds_toArray, List.set_cons_zero, List.set_cons_succ] at hp6
          have hO6 : Only (fun x => (Value.slice ca k ck).ownBlock = some x ∨ x = pb) (wr.alloc (.cells #[.slice (some ⟨g, 0, none⟩) j cap] 67)) (w5.setCell ⟨pb, 4, none⟩ (.slice ca' (k + 1) ck')) := (hOg.mono fun _ _ h => .inl h).trans (Only.of_set w5 _ _) fun _ _ h => .inr h
          have hd6 := own_only (hdw.alloc (.cells #[.slice (some ⟨g, 0, none⟩) j cap] 67)) hO6 (fun x hx hh => hh.elim (hcd x hx) fun e => by subst e; exact hpd hx)
          have hdn6 := RowNB.only (hdw.alloc (.cells #[.slice (some ⟨g, 0, none⟩) j cap] 67)) (RowNB.alloc hdw hdn _) hO6 (fun x hx hh => hh.elim (hcd x hx) fun e => by subst e; exact hpd hx)
          have hs6 := hO6.size
          have HN := Lib.hid (⟨hown, hg, hnew, hO6, hp6⟩ : _ ∧ _ ∧ _ ∧ _ ∧ _)
          clear hown hg hnew hI hp4 hp4f hrw hrow hltc hltd hdw hdn hpw htg hOg hpc hpd hcd hp6 hO6 hb4
          have hww6 : w.heap.size ≤ w5.heap.size := by simp at hs6; omega
          go_wp2_with (at_builtin; (refine wpList_append_nb _ rfl _ _ 59 rfl w.heap.size 4 tj (.bool false) 1 1 Try.underlying59 htj hy0 hy1 hy2 rfl (by decide) (.slice da k dk) k (List.replicate k (.bool false)) rfl (hd6.alloc (.cells #[.bool false] 4)) ⟨w5.heap.size, 0, none⟩ 1 1 [.bool false] rfl rfl ?d1 ?d2 ?d3 ?d4 ?d5 (RowNB.alloc hd6 hdn6 (.cells #[.bool false] 4)) ?d7 ?d8 ?_))
          case d1 =>
            intro x u hx
            rw [add_plain, Nat.zero_add]
            exact cells_at (heap_is (by simp)) x u (by simpa using hx)
          case d2 => intro u hu; simp at hu; subst hu; rfl
          case d3 => simp only [maxLen]; omega
          case d4 => omega
          case d5 => simp; omega
          case d7 => intro u hu; simp [Value.cells] at hu; subst hu; exact nb_bool _
          case d8 => intro u hu; simp at hu; subst hu; exact nb_bool _
          intro dv' w7 e1 e2 e3 e4
          obtain ⟨hown, hg, hnew, hO6, hp6⟩ := HN.out
          have hI := HI.out
          have hpd : ¬ (Value.slice da k dk).ownBlock = some pb := fun hx => by have := hI.dt pb hx; rw [hI.tp] at this; cases this
          have hO7 := Only.of_grown e2
          have hp7 := hO7.at (heap_keep ((Below.refl _ _).alloc (Nat.le_refl _) _) hp6) hpd
          have hn7 := cells_at hp7 5 _ rfl
          have hn7f := froz_at hp7 5
          have hlp7 := heap_lt hp7
          simp only [List.getElem_toArray, List.getElem_cons_succ, List.getElem_cons_zero] at hn7
          have hp8 := set_at (o := 5) hp7 dv'
          simp only [List.setIfInBounds_toArray, List.set_cons_zero, List.set_cons_succ] at hp8
          have hO8 : Only (RTurn pb (.slice ca k ck) (.slice da k dk)) wr (w7.setCell ⟨pb, 5, none⟩ dv') := by
            refine ((((Only.of_alloc _ wr (.cells #[.slice (some ⟨g, 0, none⟩) j cap] 67)).trans (hO6.mono (S' := RTurn pb (.slice ca k ck) (.slice da k dk)) fun x _ h => h.elim .inl fun h => .inr (.inr h)) fun _ _ h => h).alloc (.cells #[.bool false] 4)).trans (hO7.mono (S' := RTurn pb (.slice ca k ck) (.slice da k dk)) fun x _ h => .inr (.inl h)) fun _ _ h => h).trans ((Only.of_set w7 ⟨pb, 5, none⟩ dv').mono (S' := RTurn pb (.slice ca k ck) (.slice da k dk)) fun x _ h => .inr (.inr h)) fun _ _ h => h
          have HO8 := Lib.hid (⟨hO8, hp8⟩ : _ ∧ _)
          obtain ⟨da', dk', rfl⟩ := own_slice e1
          clear hO8 hp8 hp7 hO7 hO6 hp6 hown hg hnew hI hpd
          go_wp2_with fail
          obtain ⟨hO8, hp8⟩ := HO8.out
          obtain ⟨hrow, hltc, hltd, hdw, hdn, hpw, htg⟩ := HM.out
          obtain ⟨hown, hg, hnew, hO6, hp6⟩ := HN.out
          have hI := HI.out
          have hJ := HJ.out
          have hq := HQ.out
          have hsz := hO6.size
          have hpc' : ¬ (Value.slice ca' (k + 1) ck').ownBlock = some pb := fun hx => by
            rcases hnew pb hx with h | h
            · have := hI.rowt pb h; rw [hI.tp] at this; cases this
            · omega
          have hcd' : ∀ x, (Value.slice da k dk).ownBlock = some x → ¬ (Value.slice ca' (k + 1) ck').ownBlock = some x := fun x h1 h2 => by
            rcases hnew x h2 with h | h
            · have := hI.rowt x h; rw [hI.dt x h1] at this; cases this
            · have := hltd x h1; omega
          have hown8 := own_only (own_only ((own_only hown (Only.of_set w5 ⟨pb, 4, none⟩ (.slice ca' (k + 1) ck')) (fun x hx hh => by have hh : x = pb := hh; subst hh; exact hpc' hx)).alloc (.cells #[.bool false] 4)) (Only.of_grown e2) (fun x hx hh => hcd' x hh hx)) (Only.of_set w7 ⟨pb, 5, none⟩ (.slice da' (k + 1) dk')) (fun x hx hh => by have hh : x = pb := hh; subst hh; exact hpc' hx)
          have hd8 := own_only e1 (Only.of_set w7 ⟨pb, 5, none⟩ (.slice da' (k + 1) dk')) (fun x hx hh => by
            have hh : x = pb := hh
            subst hh
            rcases e4 x hx with h | h
            · have := hI.dt x h; rw [hI.tp] at this; cases this
            · omega)
          have hdn8 := RowNB.only e1 e3 (Only.of_set w7 ⟨pb, 5, none⟩ (.slice da' (k + 1) dk')) (fun x hx hh => by
            have hh : x = pb := hh
            subst hh
            rcases e4 x hx with h | h
            · have := hI.dt x h; rw [hI.tp] at this; cases this
            · omega)
          have e1r : List.replicate k (Value.bool false) ++ [.bool false] = List.replicate (k + 1) (.bool false) := by rw [List.replicate_succ']
          rw [e1r] at hd8
          have hs6' : wr.heap.size + 1 ≤ w5.heap.size := by simpa using hs6
          obtain ⟨tag', hstep⟩ := hI.step (by rw [← hq]; exact hJ.bel) hrow (by rw [← hq]; exact (hJ.row.lt g rfl).1) HCP.out hJ.pgs hJ.ht htg (by rw [← hq]; exact hJ.htq) hO8 hp8 hown8 hd8 hdn8 (fun x hx => (hnew x hx).imp_right fun h => by omega) (fun x hx => (e4 x hx).imp_right fun h => ⟨by omega, fun hh => by
            have := (hown.lt x hh).2
            omega⟩)
          have HST := Lib.hid hstep
          clear hstep hO8 hp8 hown8 hd8 hdn8 hrow hltc hltd hdw hdn hpw htg hown hg hnew hO6 hp6 hI hJ hq hpc' hcd' e1 e2 e3 e4 e1r
          go_roundw
          case rel => exact ⟨k + 1, by omega, by go_num, _, _, _, _, _, _, HST.out⟩
          case measure => simp [intOf]; omega
    · obtain rfl : k = c + 1 := by omega
      obtain ⟨hb, he, hbo⟩ := HX.out
      obtain ⟨L, hLp, hLe, hN, hLB⟩ := hI.made he HG.out hxl hxo
      have HLE := Lib.hid hLe
      clear hLe
      have hbelr := hI.bel
      clear hI he hmk
      subst hLp
      obtain ⟨av, cv', rfl, hbl1, hbl2, -⟩ := id hb
      have HBO := Lib.hid (⟨hb, hbo⟩ : _ ∧ _)
      clear hb hbo
      have hN0 : NdAt false wo L { Nd.fresh c b p s (fun _ _ => false) xs with bad := badOf (bads.take 0) } := hN
      clear hN
      go_wp2_with fail
      go_loopw [17] (fun i wr => ∃ k : Nat, k ≤ bads.length ∧ i = .int .i64 k ∧ NdAt false wr L { Nd.fresh c b p s (fun _ _ => false) xs with bad := badOf (bads.take k) } ∧ Below w.heap.size w wr) (fun i _ => bads.length - (intOf i).toNat)
      case atStart => exact ⟨0, Nat.zero_le _, rfl, hN0, hbelr⟩
      case round =>
        clear hN0 hbelr
        obtain ⟨k, hkl, rfl, hN, hbel⟩ := hrel
        by_cases hlt : k < bads.length
        · obtain ⟨a2, cap2, e2, -, -, hx⟩ := HBO.out.1.below hbel
          obtain ⟨bb, bo, rfl, hy⟩ := hx.resolve_left (fun e => by rw [e] at hlt; simp at hlt)
          simp only [Value.slice.injEq] at e2
          obtain ⟨rfl, -, rfl⟩ := e2
          obtain ⟨y0, y1⟩ := hy k hlt
          have hbb := cell_lt y0
          have htk : bads.take (k + 1) = bads.take k ++ [bads[k]] := List.take_succ_eq_append_getElem hlt
          have hmem : bads[k] ∈ bads := List.getElem_mem _
          obtain ⟨i1, i2, i3, i4⟩ := HBO.out.2 _ hmem
          have hlt' : (k : Int) < (bads.length : Int) := by omega
          have HTK := Lib.hid htk
          generalize bads[k] = x at y0 y1 HTK i1 i2 i3 i4
          obtain ⟨x0, x1⟩ := x
          simp only at y0 y1 i1 i2 i3 i4
          clear hx hy htk hmem
          obtain ⟨n0, rfl⟩ : ∃ n : Nat, x0 = n := ⟨x0.toNat, by omega⟩
          obtain ⟨n1, rfl⟩ : ∃ n : Nat, x1 = n := ⟨x1.toNat, by omega⟩
          have hm0 : n0 ≤ c := by omega
          have hm1 : n1 < b := by omega
          have hT := hN.top
          simp only [topCells] at hT
          have t4 := cells_at hT 4 _ rfl
          have hlp := heap_lt hT
          simp only [List.getElem_toArray, List.getElem_cons_succ, List.getElem_cons_zero] at t4
          replace t4 : wr.cell? ⟨L.p, 4, none⟩ = some (.slice (some ⟨L.cs, 0, none⟩) (c + 1) L.cc) := t4
          have tcs : wr.cell? ⟨L.cs, n0, none⟩ = some (.slice (some ⟨L.cb n0, 0, none⟩) b (L.bc n0)) := hN.chips.cell (o := n0) (show n0 < c + 1 by omega)
          have hlcs := cell_lt tcs
          have tb := (hN.blk n0 hm0).cell (o := n1 * 4 + 3) (show n1 * 4 + 3 < b * 4 by omega)
          rw [blkCells3] at tb
          have tbf := (hN.blk n0 hm0).froz (n1 * 4 + 3)
          have hlcb := (hN.blk n0 hm0).lt
          have hset := (hN.setBad (c := n0) (b := n1) hm0 hm1 true).congr (show _ = { Nd.fresh c b p s (fun _ _ => false) xs with bad := badOf (bads.take (k + 1)) } from by
            have : upd2 (badOf (bads.take k)) n0 n1 true = badOf (bads.take (k + 1)) := by
              funext i j
              rw [HTK.out]
              unfold upd2 badOf
              rw [List.any_append]
              by_cases e : i = n0 ∧ j = n1
              · obtain ⟨rfl, rfl⟩ := e; simp
              · rw [if_neg e]
                have : ((n0 : Int) == (i : Int) && (n1 : Int) == (j : Int)) = false := by
                  simp only [Bool.and_eq_false_iff, beq_eq_false_iff_ne]; omega
                simp [this]
            simp only [this])
          have hSb := hN.Sb (c := n0) hm0
          have htb := hN.tb n0 hm0
          have hB3 : Below w.heap.size w (wr.setCell ⟨L.cb n0, n1 * 4 + 3, none⟩ (.bool true)) :=
            hbel.setCell (by exact hLB _ (NdLay.S_ne hSb) (by rw [htb]; simp)) _
          have HY := Lib.hid (⟨hset, hB3⟩ : _ ∧ _)
          have hc1 : (n0 : Int) < (c : Int) + 1 := by omega
          have hc2 : (n1 : Int) < (b : Int) := by omega
          clear hset hB3 hT hN hSb htb i1 i2 i3 i4
          go_wp2_with fail
          (refine wp_region_mix [0, 1, 2, 3, 4, 5, 6, 7, 8, 9, 10, 11, 12, 13, 14, 15, 16, 17, 18] [(true, true), (true, true), (true, true), (true, false), (true, true), (true, true), (true, true), (true, true), (true, false), (true, true), (true, false), (true, true), (true, true), (true, true), (true, true), (true, false), (true, true), (true, true), (false, false)] [0, 1, 3, 7, 0, 0, 48, 112, 240, 511, 1023, 0, 0, 6144, 14336, 30720, 65535, 131071, 262143] _ (by kernel_rfl) (by kernel_rfl) (rfl : _ = _) ?_; simp only [pickL, List.map_cons, List.map_nil, List.getD_cons_succ, List.getD_cons_zero])
          (repeat (first | (refine mix_pure (fun hne K hK => ?_); go_simp; refine hK _ ?_; clear hK K hne) | (refine mix_load ?_ (fun K hK => ?_); (focus (first | rfl | (go_simp; done))); go_simp; refine hK _ ?_; clear hK K) | (refine mix_skip ?_ (fun K hK => ?_); (focus (first | rfl | (go_simp; done))); go_simp; refine hK _ ?_; clear hK K)))
          (refine mix_one (by first | rfl | (go_simp; done)) (fun R hR hX => ?_))
          go_wp2_with fail
          ((try simp only [wpList]); refine hR _ _ rfl ⟨fun w' => w' = _, rfl, (fun h => by cases h), ?_⟩; clear hR hX R)
          refine mix_done ?_
          go_wp2_with fail
          obtain ⟨h1, h2⟩ := HY.out
          go_roundw
          case rel => exact ⟨k + 1, by omega, by go_num, h1.drew, h2.drew⟩
          case measure => simp [intOf]; omega
        · obtain rfl : k = bads.length := by omega
          rw [List.take_length] at hN
          have hend : RNewEnds c b p s bads xs ea w (.returned (ptrV L.p)) wr := ⟨L, rfl, hN, hLB, hbel, HLE.out⟩
          have HE := Lib.hid hend
          clear hend hN
          go_wp2_with fail
          go_ret
          exact HE.out
end Go.Proofs.Ytphnjiokihbhnaa
