/- Layer 12's answer: Parse. -/
--only r2
import Derived.Test.YtogejjbclimjjaaROpen
import Derived.Test.YtogejjbclimjjaaMsRCheck
import Derived.Test.YtogejjbclimjjaaMsParse
import Derived.Test.YtogejjbclimjjaaRefInt
import Derived.Test.YtogejjbclimjjaaRDec
namespace Go.Proofs.Ytogejjbclimjjaa
set_option linter.unusedVariables false
set_option linter.unusedSimpArgs false
open Go.RowKit

def RMParseEnds (n b p s : Nat) (d l : List UInt8) (w : World) (e : Ending) (w' : World) : Prop :=
  ∃ v, e = .returned (.tuple #[v, .int .i64 (mParse n b p s d l).2]) ∧ RMsAt w' (mParse n b p s d l).1 v ∧ Below w.heap.size w w'

set_option maxRecDepth 100000 in
set_option maxHeartbeats 2000000 in
theorem msrparse_calls (n b p s : Nat) (vd vm : Value) (d l : List UInt8) (w : World) (hd : RB w vd d) (hm : RB w vm l) (hg : geoOk n b p s) (hdl : d.length ≤ 1000000) :
    Calls Try.prog 17 #[geoV n b p s, vd, vm] w (RMParseEnds n b p s d l w) := by
  have h63 : mEp d l = none → ∀ w', Below w.heap.size w w' → RMParseEnds n b p s d l w (.returned (.tuple #[.agg #[.int .i64 0, .slice none 0 0, .int .i64 0, .int .i64 0, .int .i64 0], .int .i64 63])) w' := fun h w' hb =>
    ⟨.agg #[.int .i64 0, .slice none 0 0, .int .i64 0, .int .i64 0, .int .i64 0], by unfold mParse; rw [h]; rfl, by unfold mParse; rw [h]; exact ⟨_, rfl, RI.nil _⟩, hb⟩
  have h62 : ∀ ep, mEp d l = some ep → ¬ (mRead b p s ep d ∧ (mSet d).Ok n b) → ∀ w', Below w.heap.size w w' → RMParseEnds n b p s d l w (.returned (.tuple #[.agg #[.int .i64 0, .slice none 0 0, .int .i64 0, .int .i64 0, .int .i64 0], .int .i64 62])) w' := fun ep h h2 w' hb =>
    ⟨.agg #[.int .i64 0, .slice none 0 0, .int .i64 0, .int .i64 0, .int .i64 0], by unfold mParse; rw [h]; simp only [if_neg h2]; rfl, by unfold mParse; rw [h]; simp only [if_neg h2]; exact ⟨_, rfl, RI.nil _⟩, hb⟩
  have hyes : ∀ ep, mEp d l = some ep → (mRead b p s ep d ∧ (mSet d).Ok n b) → ∀ cv w', RI w' cv (mSet d).chips → Below w.heap.size w w' → RMParseEnds n b p s d l w (.returned (.tuple #[.agg #[.int .i64 (mSet d).seq, cv, .int .i64 (mSet d).spare, .int .i64 (mSet d).dead, .int .i64 (mSet d).done], .int .i64 0])) w' := fun ep h h2 cv w' h3 hb =>
    ⟨.agg #[.int .i64 (mSet d).seq, cv, .int .i64 (mSet d).spare, .int .i64 (mSet d).dead, .int .i64 (mSet d).done], by unfold mParse; rw [h]; simp only [if_pos h2]; rfl, by unfold mParse; rw [h]; simp only [if_pos h2]; exact ⟨cv, rfl, h3⟩, hb⟩
  generalize RMParseEnds n b p s d l w = Post at h63 h62 hyes ⊢
  have HNO := Lib.hid (⟨h63, h62, hyes⟩ : _ ∧ _ ∧ _)
  clear h63 h62 hyes
  obtain ⟨i, hi, hz0, hz1, hz2⟩ := info_parts infoI64
  obtain ⟨ad, cd, rfl, hdl1, hdl2⟩ := hd.form
  obtain ⟨am, cm, rfl, -, -⟩ := hm.form
  obtain ⟨q, hq⟩ : ∃ q, q = w.heap.size := ⟨_, rfl⟩
  obtain ⟨w2, hw2⟩ : ∃ w2, w2 = (w.alloc (.cells #[.int .i64 n, .int .i64 b, .int .i64 p, .int .i64 s] 28)).alloc (.cells #[.int .i64 0, .slice none 0 0, .int .i64 0, .int .i64 0, .int .i64 0] 33) := ⟨_, rfl⟩
  have hb2 : Below w.heap.size w w2 := by rw [hw2]; exact ((Below.refl w.heap.size w).alloc (Nat.le_refl _) _).alloc (by simp) _
  have hG2 : w2.heap[q]? = some (.cells #[.int .i64 n, .int .i64 b, .int .i64 p, .int .i64 s] 28 (0, 0)) := by rw [hw2]; exact heap_old _ (heap_is hq)
  have hR2 : w2.heap[q + 1]? = some (.cells #[.int .i64 0, .slice none 0 0, .int .i64 0, .int .i64 0, .int .i64 0] 33 (0, 0)) := by rw [hw2]; exact heap_is (by simp [hq])
  have hop := ropen_calls _ _ d l w2 (hd.below hb2) (hm.below hb2) hdl
  have HQL := Lib.hid (show w.heap.size ≤ q + 1 by omega)
  have H2 := Lib.hid (⟨hop, hb2, hG2, hR2, hd.below hb2, hg⟩ : _ ∧ _ ∧ _ ∧ _ ∧ _ ∧ _)
  have HW2 := Lib.hid hw2
  have HGO := Lib.hid hg
  clear hop hb2 hG2 hR2 hd hm hw2 hg
  go_enter Try.func17, Try.ntmps17
  go_upto_region 1 with (fail)
  rw [← hq, ← HW2.out]
  clear hq HW2
  go_wp2_with fail
  refine H2.out.1.mono ?_
  rintro e w3 ⟨rfl, hb3⟩
  obtain ⟨hb, hhb⟩ : ∃ hb, hb = w3.heap.size := ⟨_, rfl⟩
  have hB3 := H2.out.2.1.trans (hb3.mono H2.out.2.1.size)
  have hG3 := heap_keep hb3 H2.out.2.2.1
  have hR3 := heap_keep hb3 H2.out.2.2.2.1
  have hd3 := H2.out.2.2.2.2.1.below hb3
  obtain ⟨O, hO⟩ : ∃ O, O = opened d l := ⟨_, rfl⟩
  rw [← hO]
  have H3 := Lib.hid (⟨hB3, hG3, hR3, hd3, hO⟩ : _ ∧ _ ∧ _ ∧ _ ∧ _)
  clear hB3 hG3 hR3 hd3 hO hb3
  cases O with
  | none =>
    rw [show ropenedV none = .tuple #[.agg #[.int .i64 0, .int .i64 0, .int .i64 0, .int .i64 0, .int .i64 0, .int .i64 0, .int .i64 0], .bool false] from rfl]
    have hep : mEp d l = none := by unfold mEp; rw [← H3.out.2.2.2.2]
    obtain ⟨w4, hw4⟩ : ∃ w4, w4 = w3.alloc (.cells #[.int .i64 0, .int .i64 0, .int .i64 0, .int .i64 0, .int .i64 0, .int .i64 0, .int .i64 0] 95) := ⟨_, rfl⟩
    have hb34 : Below w3.heap.size w3 w4 := by rw [hw4]; exact (Below.refl _ _).alloc (Nat.le_refl _) _
    have hR4 := heap_keep hb34 H3.out.2.2.1
    have hB4 := H3.out.1.trans (hb34.mono H3.out.1.size)
    have HW4 := Lib.hid hw4
    clear hw4 hb34
    go_upto_region 2 with (fail)
    rw [← HW4.out]
    clear HW4
    have hRx := hR4
    have hset := set5 (.int .i64 0) (.slice none 0 0) (.int .i64 0) (.int .i64 0) (.int .i64 0) hRx
    have hend := (HNO.out.1 hep) _ (put5 (hB4) (q + 1) (.int .i64 0) (.slice none 0 0) (.int .i64 0) (.int .i64 0) (.int .i64 0) HQL.out)
    have HE := Lib.hid (⟨hset, hend⟩ : _ ∧ _)
    have r0 := cells_at hRx 0 _ rfl
    have r1 := cells_at hRx 1 _ rfl
    have r2 := cells_at hRx 2 _ rfl
    have r3 := cells_at hRx 3 _ rfl
    have r4 := cells_at hRx 4 _ rfl
    have f0 := froz_at hRx 0
    have f1 := froz_at hRx 1
    have f2 := froz_at hRx 2
    have f3 := froz_at hRx 3
    have f4 := froz_at hRx 4
    simp only [List.getElem_toArray, List.getElem_cons_succ, List.getElem_cons_zero] at r0 r1 r2 r3 r4
    have hlr := heap_lt hRx
    clear hset hend hRx hep hB4 hR4
    go_wp2_with ((try simp only [Exit.inBlock, Exit.then]); refine bodyPost_ret (res_ct rfl rfl HE.out.1 Try.underlying33 rfl (by kernel_rfl)) rfl ?_; exact HE.out.2)
  | some h =>
    have hepl := hdrOf_epoch_lt H3.out.2.2.2.2.symm
    have hmep : mEp d l = if h.kind = 2 then some h.epoch else none := by unfold mEp; rw [← H3.out.2.2.2.2]
    obtain ⟨hk, ep, hba, hix, hct, hbk, hmo⟩ := h
    simp only at hmep hepl
    rw [show ropenedV (some ⟨hk, ep, hba, hix, hct, hbk, hmo⟩) = .tuple #[.agg #[.int .i64 hk, .int .i64 ep, .int .i64 hba, .int .i64 hix, .int .i64 hct, .int .i64 hbk, .int .i64 hmo], .bool true] from rfl]
    obtain ⟨w4, hw4⟩ : ∃ w4, w4 = w3.alloc (.cells #[.int .i64 hk, .int .i64 ep, .int .i64 hba, .int .i64 hix, .int .i64 hct, .int .i64 hbk, .int .i64 hmo] 95) := ⟨_, rfl⟩
    have hb34 : Below w3.heap.size w3 w4 := by rw [hw4]; exact (Below.refl _ _).alloc (Nat.le_refl _) _
    have hH4 : w4.heap[hb]? = some (.cells #[.int .i64 hk, .int .i64 ep, .int .i64 hba, .int .i64 hix, .int .i64 hct, .int .i64 hbk, .int .i64 hmo] 95 (0, 0)) := by rw [hw4]; exact heap_is hhb
    have hR4 := heap_keep hb34 H3.out.2.2.1
    have hG4 := heap_keep hb34 H3.out.2.1
    have hB4 := H3.out.1.trans (hb34.mono H3.out.1.size)
    have hd4 := H3.out.2.2.2.1.below hb34
    have hs4 : w4.heap.size = hb + 1 := by rw [hw4, hhb]; simp
    have HW4 := Lib.hid hw4
    have hqh : q + 1 < hb := by rw [hhb]; exact heap_lt H3.out.2.2.1
    have H4 := Lib.hid (⟨hB4, hG4, hR4, hH4, hd4, hs4, hmep, hqh, hepl⟩ : _ ∧ _ ∧ _ ∧ _ ∧ _ ∧ _ ∧ _ ∧ _ ∧ _)
    have h0 := cells_at hH4 0 _ rfl
    simp only [List.getElem_toArray, List.getElem_cons_zero] at h0
    have hlh := heap_lt hH4
    clear hw4 hb34 hR4 hG4 hB4 hd4 hs4 hH4 hmep hqh hepl
    go_upto_region 2 with (fail)
    rw [← hhb, ← HW4.out]
    clear hhb HW4
    by_cases hk2 : hk = 2
    rotate_left
    · have e1 : ((hk : Int) != 2) = true := by rw [bne_iff_ne]; omega
      have hep : mEp d l = none := by rw [H4.out.2.2.2.2.2.2.1, if_neg hk2]
      have hRx := H4.out.2.2.1
      have hset := set5 (.int .i64 0) (.slice none 0 0) (.int .i64 0) (.int .i64 0) (.int .i64 0) hRx
      have hend := (HNO.out.1 hep) _ (put5 (H4.out.1) (q + 1) (.int .i64 0) (.slice none 0 0) (.int .i64 0) (.int .i64 0) (.int .i64 0) HQL.out)
      have HE := Lib.hid (⟨hset, hend⟩ : _ ∧ _)
      have r0 := cells_at hRx 0 _ rfl
      have r1 := cells_at hRx 1 _ rfl
      have r2 := cells_at hRx 2 _ rfl
      have r3 := cells_at hRx 3 _ rfl
      have r4 := cells_at hRx 4 _ rfl
      have f0 := froz_at hRx 0
      have f1 := froz_at hRx 1
      have f2 := froz_at hRx 2
      have f3 := froz_at hRx 3
      have f4 := froz_at hRx 4
      simp only [List.getElem_toArray, List.getElem_cons_succ, List.getElem_cons_zero] at r0 r1 r2 r3 r4
      have hlr := heap_lt hRx
      clear hset hend hRx hep hk2
      go_wp2_with ((try simp only [Exit.inBlock, Exit.then]); refine bodyPost_ret (res_ct rfl rfl HE.out.1 Try.underlying33 rfl (by kernel_rfl)) rfl ?_; exact HE.out.2)
    subst hk2
    have hep : mEp d l = some ep := by rw [H4.out.2.2.2.2.2.2.1, if_pos rfl]
    have hNR := HNO.out.2.1 ep hep
    have hYS := HNO.out.2.2 ep hep
    have HEP := Lib.hid (⟨hNR, hYS⟩ : _ ∧ _)
    clear hep hNR hYS HNO H2 H3
    simp only [show ((2 : Nat) : Int) = 2 from rfl] at h0 ⊢
    go_upto_region 4 with (fail)
    clear h0 hlh
    by_cases hl5 : d.length < 5
    · have e1 : decide ((d.length : Int) < 5) = true := by simp; omega
      have hnr : ¬ (mRead b p s ep d ∧ (mSet d).Ok n b) := fun h => by have := h.1.1; omega
      have hRx := H4.out.2.2.1
      have hset := set5 (.int .i64 0) (.slice none 0 0) (.int .i64 0) (.int .i64 0) (.int .i64 0) hRx
      have hend := (HEP.out.1 hnr) _ (put5 (H4.out.1) (q + 1) (.int .i64 0) (.slice none 0 0) (.int .i64 0) (.int .i64 0) (.int .i64 0) HQL.out)
      have HE := Lib.hid (⟨hset, hend⟩ : _ ∧ _)
      have r0 := cells_at hRx 0 _ rfl
      have r1 := cells_at hRx 1 _ rfl
      have r2 := cells_at hRx 2 _ rfl
      have r3 := cells_at hRx 3 _ rfl
      have r4 := cells_at hRx 4 _ rfl
      have f0 := froz_at hRx 0
      have f1 := froz_at hRx 1
      have f2 := froz_at hRx 2
      have f3 := froz_at hRx 3
      have f4 := froz_at hRx 4
      simp only [List.getElem_toArray, List.getElem_cons_succ, List.getElem_cons_zero] at r0 r1 r2 r3 r4
      have hlr := heap_lt hRx
      clear hset hend hRx hnr hl5
      go_wp2_with ((try simp only [Exit.inBlock, Exit.then]); refine bodyPost_ret (res_ct rfl rfl HE.out.1 Try.underlying33 rfl (by kernel_rfl)) rfl ?_; exact HE.out.2)
    have e1 : decide ((d.length : Int) < 5) = false := by simp; omega
    obtain ⟨bd, od, cd', ed, -, -, hcd⟩ := H4.out.2.2.2.2.1.out (by omega)
    simp only [Value.slice.injEq] at ed
    obtain ⟨rfl, -, rfl⟩ := ed
    obtain ⟨n5, hn5⟩ : ∃ n5, n5 = mN d := ⟨_, rfl⟩
    have hn5l : n5 < 256 := by rw [hn5]; exact getN_lt d 4
    have hby : ∀ (k : Nat) (h : k < d.length), w4.cell? ⟨bd, od + k, none⟩ = some (.int .u8 (getN d k : Nat)) := fun k h => by
      rw [getN_at h]; exact hcd k h
    have d4 : w4.cell? ⟨bd, od + 4, none⟩ = some (.int .u8 n5) := by rw [hn5]; exact hby 4 (by omega)
    have hld := cell_lt d4
    have HBY := Lib.hid hby
    have HN5 := Lib.hid hn5
    have e0 : decide (4 < d.length) = true := by simp; omega
    have h4d : 4 < d.length := by omega
    have h4i : (4 : Int) < (d.length : Int) := by omega
    clear hcd hby hn5
    by_cases hlen : d.length < 14 + n5
    · have e2 : decide ((d.length : Int) < 14 + (n5 : Int)) = true := by simp; omega
      have hnr : ¬ (mRead b p s ep d ∧ (mSet d).Ok n b) := fun h => by have := h.1.1; rw [← HN5.out] at this; omega
      have hRx := H4.out.2.2.1
      have hset := set5 (.int .i64 0) (.slice none 0 0) (.int .i64 0) (.int .i64 0) (.int .i64 0) hRx
      have hend := (HEP.out.1 hnr) _ (put5 (H4.out.1) (q + 1) (.int .i64 0) (.slice none 0 0) (.int .i64 0) (.int .i64 0) (.int .i64 0) HQL.out)
      have HE := Lib.hid (⟨hset, hend⟩ : _ ∧ _)
      have r0 := cells_at hRx 0 _ rfl
      have r1 := cells_at hRx 1 _ rfl
      have r2 := cells_at hRx 2 _ rfl
      have r3 := cells_at hRx 3 _ rfl
      have r4 := cells_at hRx 4 _ rfl
      have f0 := froz_at hRx 0
      have f1 := froz_at hRx 1
      have f2 := froz_at hRx 2
      have f3 := froz_at hRx 3
      have f4 := froz_at hRx 4
      simp only [List.getElem_toArray, List.getElem_cons_succ, List.getElem_cons_zero] at r0 r1 r2 r3 r4
      have hlr := heap_lt hRx
      clear hset hend hRx hnr hlen hl5
      go_wp2_with ((try simp only [Exit.inBlock, Exit.then]); refine bodyPost_ret (res_ct rfl rfl HE.out.1 Try.underlying33 rfl (by kernel_rfl)) rfl ?_; exact HE.out.2)
    have e2 : decide ((d.length : Int) < 14 + (n5 : Int)) = false := by simp; omega
    obtain ⟨sq, hsq⟩ : ∃ sq, sq = (mSet d).seq := ⟨_, rfl⟩
    have hsql : sq < 4294967296 := by rw [hsq]; exact mSet_seq d
    have hnum := num_calls _ d 0 4 w4 H4.out.2.2.2.2.1 (by omega) (by omega)
    rw [show leNum ((d.drop 0).take 4) = sq by rw [hsq]; rfl, show ((0 : Nat) : Int) = 0 from rfl, show ((4 : Nat) : Int) = 4 from rfl] at hnum
    have HNUM := Lib.hid hnum
    have HSQ := Lib.hid hsq
    have HLEN := Lib.hid hlen
    have ew : IntKind.i64.wrap (sq : Int) = (sq : Int) := IntWalk.i64_in _ ⟨by omega, by omega⟩
    clear hnum hsq hlen hl5
    go_upto_region 6 with (fail)
    clear e0 e1 e2
    go_wp2_with fail
    refine HNUM.out.mono ?_
    rintro e wy ⟨rfl, rfl⟩
    clear HNUM
    obtain ⟨r, hr⟩ : ∃ r, r = w4.heap.size := ⟨_, rfl⟩
    obtain ⟨w6, hw6⟩ : ∃ w6, w6 = w4.alloc (.cells #[.int .i64 sq, .slice none 0 0, .int .i64 0, .int .i64 0, .int .i64 0] 33) := ⟨_, rfl⟩
    have hb46 : Below w4.heap.size w4 w6 := by rw [hw6]; exact (Below.refl _ _).alloc (Nat.le_refl _) _
    have hT6 : w6.heap[r]? = some (.cells #[.int .i64 sq, .slice none 0 0, .int .i64 0, .int .i64 0, .int .i64 0] 33 (0, 0)) := by rw [hw6]; exact heap_is hr
    have H6 := Lib.hid (⟨hb46, hT6, hr⟩ : _ ∧ _ ∧ _)
    have HQR := Lib.hid (show q + 1 < r by have h1 := H4.out.2.2.2.2.2.1; have h2 := H4.out.2.2.2.2.2.2.2.1; omega)
    have HW6 := Lib.hid hw6
    have d4' := below_cell hb46 hld d4
    have hld' := cell_lt d4'
    clear hw6 d4
    go_upto_region 7 with (fail)
    rw [← hr, ← HW6.out]
    clear HW6 hT6 hb46 hr hld ew
    go_wp2_with fail
    clear d4' hld'
    have hdl9 : 14 + n5 ≤ d.length := by have := HLEN.out; omega
    go_loopw [12] (fun i wr => ∃ (k : Nat) (cv : Value), k ≤ n5 ∧ i = .int .i64 k ∧ wr.ownsRow (r + 1) 3 1 cv k ((intsOf ((d.drop 5).take k)).map i64v) ∧ wr.heap[r]? = some (.cells #[.int .i64 sq, cv, .int .i64 0, .int .i64 0, .int .i64 0] 33 (0, 0)) ∧ Below w4.heap.size w4 wr) (fun i _ => n5 - (intOf i).toNat)
    case atStart => exact ⟨0, .slice none 0 0, Nat.zero_le _, rfl, World.ownsRow_nil _ _ _ _, H6.out.2.1, H6.out.1⟩
    case round =>
      generalize wr = wo at hrel ⊢
      obtain ⟨k, cv, hk, rfl, hown, hbox, hbel⟩ := hrel
      obtain ⟨a3, c3, rfl⟩ := own_slice hown
      by_cases hlt : k < n5
      · have hki : (k : Int) < (n5 : Int) := by omega
        have hkd : 5 + k < d.length := by omega
        have hkdi : (5 : Int) + (k : Int) < (d.length : Int) := by omega
        obtain ⟨x, hx⟩ : ∃ x, x = getN d (5 + k) := ⟨_, rfl⟩
        have hxl : x < 256 := by rw [hx]; exact getN_lt d _
        have cb0 := HBY.out (5 + k) hkd
        rw [← hx] at cb0
        have cb1 := below_cell hbel (cell_lt cb0) cb0
        have hlb := cell_lt cb1
        rw [show 5 + k = (5 + (k : Int)).toNat by omega] at cb1
        have cb : ∀ w', Below wo.heap.size wo w' → w'.cell? ⟨bd, od + (5 + (k : Int)).toNat, none⟩ = some (.int .u8 x) := fun w' h => below_cell h hlb cb1
        have c1 : ∀ w', Below wo.heap.size wo w' → w'.cell? ⟨r, 1, none⟩ = some (.slice a3 k c3) := fun w' h => cells_at (heap_keep h hbox) 1 _ rfl
        have hlr := heap_lt hbox
        have htk : intsOf ((d.drop 5).take (k + 1)) = intsOf ((d.drop 5).take k) ++ [(x : Int)] := by
          have h5 : k < (d.drop 5).length := by simp; omega
          rw [List.take_succ_eq_append_getElem h5]
          unfold intsOf
          rw [List.map_append]
          congr 1
          simp only [List.map_cons, List.map_nil, List.getElem_drop]
          rw [hx, getN_at hkd]
        have hsz : r + 1 ≤ wo.heap.size := hlr
        have HT := Lib.hid (⟨htk, hlt, hown, hbox, hbel, hsz⟩ : _ ∧ _ ∧ _ ∧ _ ∧ _ ∧ _)
        have ex : IntKind.i64.wrap (x : Int) = (x : Int) := IntWalk.i64_in _ ⟨by omega, by omega⟩
        have e5 : IntKind.i64.wrap (5 + (k : Int)) = 5 + (k : Int) := IntWalk.i64_in _ ⟨by omega, by omega⟩
        have h50 : (0 : Int) ≤ 5 + (k : Int) := by omega
        clear htk hlt hown hbox hbel hx cb0 cb1 hsz
        go_wp2_with fail
        (refine wp_region_mix [0, 1, 2, 3, 4, 5, 6, 7, 8, 9, 10, 11] [(true, true), (true, false), (true, true), (true, true), (true, true), (true, true), (true, false), (true, true), (false, true), (false, false), (true, true), (false, false)] [0, 1, 0, 0, 8, 28, 60, 124, 252, 511, 1023, 2047] (fun w' => Below wo.heap.size wo w') (by kernel_rfl) (by kernel_rfl) ?_ ?_; rotate_left; simp only [pickL, List.map_cons, List.map_nil, List.getD_cons_succ, List.getD_cons_zero])
        rotate_left
        focus exact (Below.refl _ _).drew
        iterate 8 (first | (refine mix_pure (fun hne K hK => ?_); go_simp; refine hK _ ?_; clear hK K hne) | (refine mix_load ?_ (fun K hK => ?_); (focus (first | rfl | (go_simp; done))); apply Exists.intro; apply And.intro; (focus (intro w' hC; go_simp; exact rfl)); go_simp; refine hK _ ?_; clear hK K) | (refine mix_skip ?_ (fun K hK => ?_); (focus (first | rfl | (go_simp; done))); go_simp; refine hK _ ?_; clear hK K))
        clear cb c1 ex e5 h50
        have hown0 := HT.out.2.2.1
        have hal : Below wo.heap.size wo (wo.alloc (.cells #[.int .i64 x] 3)).drew := ((Below.refl _ _).alloc (Nat.le_refl _) _).drew
        (refine mix_one (by first | rfl | (go_simp; done)) (fun R hR hX => ?_))
        go_wp2_with fail
        refine hR _ _ rfl ⟨_, hal, fun _ => rfl, ?_⟩; clear hR hX R
        have hxA := (hown0.alloc (.cells #[.int .i64 x] 3)).drew
        have hrv : RV (wo.alloc (.cells #[.int .i64 x] 3)).drew (.slice (some ⟨wo.heap.size, 0, none⟩) 1 1) [.int .i64 x] := (RV.cells (n := 1) (heap_is rfl) rfl (by decide) rfl : RV (wo.alloc (.cells #[.int .i64 x] 3)) _ _).below (Below.refl _ _).drew
        have hszA : r + 1 ≤ (wo.alloc (.cells #[.int .i64 x] 3)).drew.heap.size := Nat.le_trans HT.out.2.2.2.2.2 hal.size
        have HAL := Lib.hid hal
        clear hal
        (refine mix_one (by first | rfl | (go_simp; done)) (fun R hR hX => ?_))
        go_wp2_with (at_builtin; (refine wpList_append_RV rfl _ _ 22 rfl (r + 1) 3 i (.int .i64 0) 8 Try.underlying22 hi hz0 hz1 hz2 rfl (.slice a3 k c3) k _ rfl hxA _ _ rfl hrv (one_cell rfl) ?c1 ?c2 ?c3 ?_))
        case c1 => (try simp only [List.length_cons, List.length_nil]); unfold maxLen; omega
        case c2 => (try simp only [List.length_cons, List.length_nil]); omega
        case c3 => first | exact hszA | (have := HT.out.2.2.2.2.2; omega)
        intro v8 w8 hx8 hg8 _
        have hbs := below_pushed (Below.refl (r + 1) _) hxA hg8 hszA (Nat.le_refl _)
        have hbox8 := (hbs.block r (by omega)).trans (heap_keep HAL.out HT.out.2.2.2.1)
        have hbel8 := below_pushed (HT.out.2.2.2.2.1.trans (HAL.out.mono HT.out.2.2.2.2.1.size)) hxA hg8 (Nat.le_trans HT.out.2.2.2.2.1.size HAL.out.size) (by have := H6.out.2.2; omega)
        have hown8 : w8.ownsRow (r + 1) 3 1 v8 (k + 1) ((intsOf ((d.drop 5).take (k + 1))).map i64v) := by
          rw [HT.out.1, List.map_append]; exact hx8
        obtain ⟨a8, c8, rfl⟩ := own_slice hown8
        have c1 := cells_at hbox8 1 _ rfl
        have f1 := froz_at hbox8 1
        simp only [List.getElem_toArray, List.getElem_cons_succ, List.getElem_cons_zero] at c1
        have hlr8 := heap_lt hbox8
        have hbox9 : (w8.setCell ⟨r, 1, none⟩ (.slice a8 (k + 1) c8)).heap[r]? = some (.cells #[.int .i64 sq, .slice a8 (k + 1) c8, .int .i64 0, .int .i64 0, .int .i64 0] 33 (0, 0)) := by
          have := set_at (o := 1) hbox8 (.slice a8 (k + 1) c8)
          simpa using this
        have hown9 := own_only hown8 ((Only.refl (fun x => x = r) w8).set ⟨r, 1, none⟩ (.slice a8 (k + 1) c8) fun _ => rfl) (fun x hx e => by have := (hown8.lt x hx).1; omega)
        have hbel9 : Below w4.heap.size w4 (w8.setCell ⟨r, 1, none⟩ (.slice a8 (k + 1) c8)) := hbel8.setCell (by show w4.heap.size ≤ r; have := H6.out.2.2; omega) _
        have HZ := Lib.hid (⟨hbox9, hown9, hbel9⟩ : _ ∧ _ ∧ _)
        clear hx8 hg8 hbs hbox8 hbel8 hown8 hxA hrv hszA HAL hown0 hbox9 hown9 hbel9
        go_wp2_with fail
        ((try simp only [wpList]); refine hR _ _ rfl ⟨fun w' => w' = _, rfl, (fun h => by cases h), ?_⟩; clear hR hX R)
        (first | (refine mix_pure (fun hne K hK => ?_); go_simp; refine hK _ ?_; clear hK K hne) | (refine mix_load ?_ (fun K hK => ?_); (focus (first | rfl | (go_simp; done))); go_simp; refine hK _ ?_; clear hK K) | (refine mix_skip ?_ (fun K hK => ?_); (focus (first | rfl | (go_simp; done))); go_simp; refine hK _ ?_; clear hK K))
        (refine mix_one (by first | rfl | (go_simp; done)) (fun R hR hX => ?_))
        go_wp2_with fail
        ((try simp only [wpList]); refine hR _ _ rfl ⟨fun w' => w' = _, rfl, (fun h => by cases h), ?_⟩; clear hR hX R)
        refine mix_done ?_
        clear c1 f1 hlr8
        go_wp2_with fail
        go_roundw
        case rel => exact ⟨k + 1, _, HT.out.2.1, by go_num, HZ.out.2.1, HZ.out.1, HZ.out.2.2⟩
        case measure => have := HT.out.2.1; show n5 - ((k : Int) + 1).toNat < n5 - (k : Int).toNat; omega
      · have hkn : n5 = k := by omega
        subst hkn
        clear hlt hk
        obtain ⟨L, hL⟩ : ∃ L, L = (mSet d).chips := ⟨_, rfl⟩
        have hLe : intsOf ((d.drop 5).take n5) = L := by rw [hL, HN5.out]; rfl
        rw [hLe] at hown
        obtain ⟨at5, hat⟩ : ∃ a, a = 5 + n5 := ⟨_, rfl⟩
        obtain ⟨x5, hx5⟩ : ∃ x, x = getN d (5 + n5) := ⟨_, rfl⟩
        obtain ⟨x6, hx6⟩ : ∃ x, x = getN d (6 + n5) := ⟨_, rfl⟩
        obtain ⟨x7, hx7⟩ : ∃ x, x = getN d (7 + n5) := ⟨_, rfl⟩
        have x5l : x5 < 256 := by rw [hx5]; exact getN_lt d _
        have x6l : x6 < 256 := by rw [hx6]; exact getN_lt d _
        have x7l : x7 < 256 := by rw [hx7]; exact getN_lt d _
        have m5 : w4.cell? ⟨bd, od + at5, none⟩ = some (.int .u8 x5) := by rw [hat, hx5]; exact HBY.out (5 + n5) (by omega)
        have m6 : w4.cell? ⟨bd, od + (at5 + 1), none⟩ = some (.int .u8 x6) := by rw [show at5 + 1 = 6 + n5 by omega, hx6]; exact HBY.out (6 + n5) (by omega)
        have m7 : w4.cell? ⟨bd, od + (at5 + 2), none⟩ = some (.int .u8 x7) := by rw [show at5 + 2 = 7 + n5 by omega, hx7]; exact HBY.out (7 + n5) (by omega)
        have hS : mSet d = ⟨sq, L, (x5 : Nat), (x6 : Nat), (x7 : Nat)⟩ := by
          rw [HSQ.out, hL, hx5, hx6, hx7, HN5.out]; rfl
        have hLl : L.length = n5 := by rw [← hLe, intsOf_length]; simp; omega
        have hatb : at5 + 9 ≤ d.length ∧ at5 < 261 := by omega
        have HMC := Lib.hid (⟨m5, m6, m7, hS, hLl⟩ : _ ∧ _ ∧ _ ∧ _ ∧ _)
        have HAT := Lib.hid hat
        clear hLe hL hx5 hx6 hx7 hS hLl m5 m6 m7
        go_upto_region 13 with (fail)
        rw [show (5 : Int) + (n5 : Int) = (at5 : Int) by omega]
        clear hat
        have b5 := below_cell hbel (cell_lt HMC.out.1) HMC.out.1
        have hlb := cell_lt b5
        have hlr := heap_lt hbox
        have c2 := cells_at hbox 2 _ rfl
        have f2 := froz_at hbox 2
        simp only [List.getElem_toArray, List.getElem_cons_succ, List.getElem_cons_zero] at c2
        have ei : (at5 : Int) + 0 < (d.length : Int) := by omega
        have en : at5 + 0 < d.length := by omega
        have exx : IntKind.i64.wrap (x5 : Int) = (x5 : Int) := IntWalk.i64_in _ ⟨by omega, by omega⟩
        obtain ⟨w8, hw8⟩ : ∃ x, x = wo.setCell ⟨r, 2, none⟩ (.int .i64 x5) := ⟨_, rfl⟩
        have hboxn : w8.heap[r]? = some (.cells #[.int .i64 sq, .slice a3 n5 c3, .int .i64 x5, .int .i64 0, .int .i64 0] 33 (0, 0)) := by
          rw [hw8]
          have := set_at (o := 2) hbox (.int .i64 x5)
          simpa using this
        have hownn : w8.ownsRow (r + 1) 3 1 (.slice a3 n5 c3) n5 (L.map i64v) := by rw [hw8]; exact own_only hown ((Only.refl (fun x => x = r) wo).set ⟨r, 2, none⟩ (.int .i64 x5) fun _ => rfl) (fun x hx e => by have := (hown.lt x hx).1; omega)
        have hbeln : Below w4.heap.size w4 w8 := by rw [hw8]; exact hbel.setCell (by show w4.heap.size ≤ r; have := H6.out.2.2; omega) _
        have Hw8 := Lib.hid hw8
        clear hw8 hbox hown hbel
        go_upto_region 14 with (fail)
        rw [← Hw8.out]
        clear Hw8 b5 hlb hlr c2 f2 ei en exx
        have hbox := hboxn
        have hown := hownn
        have hbel := hbeln
        clear hboxn hownn hbeln
        have b5 := below_cell hbel (cell_lt HMC.out.2.1) HMC.out.2.1
        have hlb := cell_lt b5
        have hlr := heap_lt hbox
        have c2 := cells_at hbox 3 _ rfl
        have f2 := froz_at hbox 3
        simp only [List.getElem_toArray, List.getElem_cons_succ, List.getElem_cons_zero] at c2
        have ei : (at5 : Int) + 1 < (d.length : Int) := by omega
        have en : at5 + 1 < d.length := by omega
        have exx : IntKind.i64.wrap (x6 : Int) = (x6 : Int) := IntWalk.i64_in _ ⟨by omega, by omega⟩
        obtain ⟨w9, hw9⟩ : ∃ x, x = w8.setCell ⟨r, 3, none⟩ (.int .i64 x6) := ⟨_, rfl⟩
        have hboxn : w9.heap[r]? = some (.cells #[.int .i64 sq, .slice a3 n5 c3, .int .i64 x5, .int .i64 x6, .int .i64 0] 33 (0, 0)) := by
          rw [hw9]
          have := set_at (o := 3) hbox (.int .i64 x6)
          simpa using this
        have hownn : w9.ownsRow (r + 1) 3 1 (.slice a3 n5 c3) n5 (L.map i64v) := by rw [hw9]; exact own_only hown ((Only.refl (fun x => x = r) w8).set ⟨r, 3, none⟩ (.int .i64 x6) fun _ => rfl) (fun x hx e => by have := (hown.lt x hx).1; omega)
        have hbeln : Below w4.heap.size w4 w9 := by rw [hw9]; exact hbel.setCell (by show w4.heap.size ≤ r; have := H6.out.2.2; omega) _
        have Hw9 := Lib.hid hw9
        clear hw9 hbox hown hbel
        go_upto_region 15 with (fail)
        rw [← Hw9.out]
        clear Hw9 b5 hlb hlr c2 f2 ei en exx
        have hbox := hboxn
        have hown := hownn
        have hbel := hbeln
        clear hboxn hownn hbeln
        have b5 := below_cell hbel (cell_lt HMC.out.2.2.1) HMC.out.2.2.1
        have hlb := cell_lt b5
        have hlr := heap_lt hbox
        have c2 := cells_at hbox 4 _ rfl
        have f2 := froz_at hbox 4
        simp only [List.getElem_toArray, List.getElem_cons_succ, List.getElem_cons_zero] at c2
        have ei : (at5 : Int) + 2 < (d.length : Int) := by omega
        have en : at5 + 2 < d.length := by omega
        have exx : IntKind.i64.wrap (x7 : Int) = (x7 : Int) := IntWalk.i64_in _ ⟨by omega, by omega⟩
        obtain ⟨w11, hw11⟩ : ∃ x, x = w9.setCell ⟨r, 4, none⟩ (.int .i64 x7) := ⟨_, rfl⟩
        have hboxn : w11.heap[r]? = some (.cells #[.int .i64 sq, .slice a3 n5 c3, .int .i64 x5, .int .i64 x6, .int .i64 x7] 33 (0, 0)) := by
          rw [hw11]
          have := set_at (o := 4) hbox (.int .i64 x7)
          simpa using this
        have hownn : w11.ownsRow (r + 1) 3 1 (.slice a3 n5 c3) n5 (L.map i64v) := by rw [hw11]; exact own_only hown ((Only.refl (fun x => x = r) w9).set ⟨r, 4, none⟩ (.int .i64 x7) fun _ => rfl) (fun x hx e => by have := (hown.lt x hx).1; omega)
        have hbeln : Below w4.heap.size w4 w11 := by rw [hw11]; exact hbel.setCell (by show w4.heap.size ≤ r; have := H6.out.2.2; omega) _
        have Hw11 := Lib.hid hw11
        clear hw11 hbox hown hbel
        go_upto_region 16 with (fail)
        rw [← Hw11.out]
        clear Hw11 b5 hlb hlr c2 f2 ei en exx
        have hbox := hboxn
        have hown := hownn
        have hbel := hbeln
        clear hboxn hownn hbeln
        have hBw := H4.out.1.trans (hbel.mono H4.out.1.size)
        have hGw := heap_keep hbel H4.out.2.1
        have hRw := heap_keep hbel H4.out.2.2.1
        have hHw := heap_keep hbel H4.out.2.2.2.1
        have hdw := H4.out.2.2.2.2.1.below hbel
        have HW := Lib.hid (⟨hBw, hGw, hRw, hHw, hdw, hbox, hown⟩ : _ ∧ _ ∧ _ ∧ _ ∧ _ ∧ _ ∧ _)
        clear hBw hGw hRw hHw hdw hbox hown hbel H6
        obtain ⟨D, hDD⟩ : ∃ D : Bool, D = true ↔ ¬ mRead b p s ep d := by classical exact ⟨decide (¬ mRead b p s ep d), by simp⟩
        have HDD := Lib.hid hDD
        clear hDD
        go_cut [128] (fun s128 wx => s128 = .bool D ∧ Below w11.heap.size w11 wx)
        case first =>
          obtain ⟨M8, hM8⟩ : ∃ M, M = mU d (8 + n5) := ⟨_, rfl⟩
          obtain ⟨M10, hM10⟩ : ∃ M, M = mU d (10 + n5) := ⟨_, rfl⟩
          obtain ⟨M12, hM12⟩ : ∃ M, M = mU d (12 + n5) := ⟨_, rfl⟩
          obtain ⟨Z, hZ⟩ : ∃ Z, Z = (d.drop (14 + n5)).all (· == 0) := ⟨_, rfl⟩
          have hmr : D = true ↔ (M8 ≠ b ∨ M10 ≠ p ∨ M12 ≠ s ∨ Z = false ∨ sq ≠ ep) := by
            rw [HDD.out, hM8, hM10, hM12, hZ, HSQ.out, HN5.out]
            unfold mRead
            have hl : 14 + mN d ≤ d.length := by rw [← HN5.out]; exact hdl9
            have hs : (mSet d).seq = leNum (d.take 4) := rfl
            rw [hs]
            constructor
            · intro h
              by_cases h1 : mU d (8 + mN d) = b
              · by_cases h2 : mU d (10 + mN d) = p
                · by_cases h3 : mU d (12 + mN d) = s
                  · by_cases h4 : (d.drop (14 + mN d)).all (· == 0) = true
                    · by_cases h5 : leNum (d.take 4) = ep
                      · exact absurd ⟨hl, h1, h2, h3, h4, h5⟩ h
                      · exact .inr (.inr (.inr (.inr h5)))
                    · exact .inr (.inr (.inr (.inl (by simpa using h4))))
                  · exact .inr (.inr (.inl h3))
                · exact .inr (.inl h2)
              · exact .inl h1
            · rintro h ⟨-, h1, h2, h3, h4, h5⟩
              rcases h with h | h | h | h | h
              · exact h h1
              · exact h h2
              · exact h h3
              · rw [h4] at h; cases h
              · exact h h5
          have i8 := int_calls _ d (at5 + 3) 2 w11.drew (HW.out.2.2.2.2.1.below (Below.refl _ _).drew) (by omega) (by omega)
          have i10 := int_calls _ d (at5 + 5) 2 w11.drew (HW.out.2.2.2.2.1.below (Below.refl _ _).drew) (by omega) (by omega)
          have i12 := int_calls _ d (at5 + 7) 2 w11.drew (HW.out.2.2.2.2.1.below (Below.refl _ _).drew) (by omega) (by omega)
          rw [show leNum ((d.drop (at5 + 3)).take 2) = M8 by rw [hM8, HAT.out, show 5 + n5 + 3 = 8 + n5 by omega]; rfl, show ((at5 + 3 : Nat) : Int) = (at5 : Int) + 3 from rfl, show ((2 : Nat) : Int) = 2 from rfl] at i8
          rw [show leNum ((d.drop (at5 + 5)).take 2) = M10 by rw [hM10, HAT.out, show 5 + n5 + 5 = 10 + n5 by omega]; rfl, show ((at5 + 5 : Nat) : Int) = (at5 : Int) + 5 from rfl, show ((2 : Nat) : Int) = 2 from rfl] at i10
          rw [show leNum ((d.drop (at5 + 7)).take 2) = M12 by rw [hM12, HAT.out, show 5 + n5 + 7 = 12 + n5 by omega]; rfl, show ((at5 + 7 : Nat) : Int) = (at5 : Int) + 7 from rfl, show ((2 : Nat) : Int) = 2 from rfl] at i12
          obtain ⟨iu, hiu, hu0, hu1, hu2⟩ := info_parts infoU8
          obtain ⟨az, lz, kz, hcv⟩ : ∃ a l k, cutV (some ⟨bd, od, none⟩) cd (at5 + 9) d.length = .slice a l k := ⟨_, _, _, by unfold cutV; rfl⟩
          have hcut : ∀ w, (Instr.sliceAt 23 (.slice (some ⟨bd, od, none⟩) d.length cd) (some (.int .i64 ((at5 : Int) + 9))) none none).run Try.prog w = .ok (.slice az lz kz) w := fun w => by
            have := run_cut_from (P := Try.prog) Try.underlying23 hiu hu1 (some ⟨bd, od, none⟩) d.length cd (at5 + 9) (by omega) w
            rw [hcv] at this
            exact this
          have hzr : RB w11.drew (.slice az lz kz) (d.drop (at5 + 9)) := by
            have := RV.cut (HW.out.2.2.2.2.1.below (Below.refl _ _).drew) (i := at5 + 9) (j := d.length) (by omega) (by rw [List.length_map]; exact Nat.le_refl _)
            rw [hcv, List.take_of_length_le (by rw [List.length_drop, List.length_map]; exact Nat.le_refl _), ← List.map_drop] at this
            exact this
          have hzc := isZero_calls _ _ w11.drew hzr
          rw [show (d.drop (at5 + 9)).all (· == 0) = Z by rw [hZ, HAT.out, show 5 + n5 + 9 = 14 + n5 by omega]] at hzc
          have HI := Lib.hid (⟨i8, i10, i12, hzc⟩ : _ ∧ _ ∧ _ ∧ _)
          have HMR := Lib.hid hmr
          have g1 := cells_at HW.out.2.1 1 _ rfl
          have g2 := cells_at HW.out.2.1 2 _ rfl
          have g3 := cells_at HW.out.2.1 3 _ rfl
          have y0 := cells_at HW.out.2.2.2.2.2.1 0 _ rfl
          have y1 := cells_at HW.out.2.2.2.1 1 _ rfl
          simp only [List.getElem_toArray, List.getElem_cons_succ, List.getElem_cons_zero] at g1 g2 g3 y0 y1
          have hlg := heap_lt HW.out.2.1
          have hlr := heap_lt HW.out.2.2.2.2.2.1
          have hlh := heap_lt HW.out.2.2.2.1
          have w3 : IntKind.i64.wrap ((at5 : Int) + 3) = (at5 : Int) + 3 := IntWalk.i64_in _ ⟨by omega, by omega⟩
          have w5 : IntKind.i64.wrap ((at5 : Int) + 5) = (at5 : Int) + 5 := IntWalk.i64_in _ ⟨by omega, by omega⟩
          have w7 : IntKind.i64.wrap ((at5 : Int) + 7) = (at5 : Int) + 7 := IntWalk.i64_in _ ⟨by omega, by omega⟩
          have w9 : IntKind.i64.wrap ((at5 : Int) + 9) = (at5 : Int) + 9 := IntWalk.i64_in _ ⟨by omega, by omega⟩
          clear hM8 hM10 hM12 hZ hmr i8 i10 i12 hcv hzr hzc
          by_cases a1 : M8 = b
          rotate_left
          · have e1 : ((M8 : Int) != (b : Int)) = true := by rw [bne_iff_ne]; omega
            have HV := Lib.hid (HMR.out.mpr (.inl a1))
            clear a1
            (refine wp_region_mix [0, 1, 2, 4, 5, 3, 6, 7, 8, 9, 10, 12, 13, 11, 14, 15, 16, 17, 18, 19, 21, 22, 20, 23, 24, 25, 26, 27, 28, 29, 30, 31, 32, 33, 34, 35, 36, 37, 38, 39] [(true, true), (true, true), (true, true), (true, true), (true, false), (false, true), (true, true), (true, true), (true, true), (true, true), (true, true), (true, true), (true, false), (false, true), (true, true), (true, true), (true, true), (true, true), (true, true), (true, true), (true, true), (true, false), (false, true), (true, true), (true, true), (true, true), (true, true), (true, true), (true, true), (true, true), (false, false), (true, true), (true, true), (true, true), (true, true), (true, false), (true, true), (true, false), (true, true), (true, true)] [0, 0, 2, 7, 0, 16, 63, 127, 255, 255, 767, 2047, 255, 4351, 16383, 32767, 65535, 131071, 131071, 393215, 1048575, 131071, 2228223, 8388607, 16777215, 33554431, 67108863, 67108863, 201326591, 536870911, 1073741823, 2147483647, 4294967295, 8589934591, 17179869183, 34359738367, 17179869183, 85899345919, 274877906943, 549755813887] _ (by kernel_rfl) (by kernel_rfl) (rfl : _ = _) ?_; simp only [pickL, List.map_cons, List.map_nil, List.getD_cons_succ, List.getD_cons_zero])
            iterate 5 (first | (refine mix_pure (fun hne K hK => ?_); go_simp; refine hK _ ?_; clear hK K hne) | (refine mix_load ?_ (fun K hK => ?_); (focus (first | rfl | (go_simp; done))); go_simp; refine hK _ ?_; clear hK K) | (refine mix_skip ?_ (fun K hK => ?_); (focus (first | rfl | (go_simp; done))); go_simp; refine hK _ ?_; clear hK K))
            (refine mix_one (by first | rfl | (go_simp; done)) (fun R hR hX => ?_))
            go_wp2_with fail
            refine (HI.out.1).mono ?_
            rintro e wn ⟨rfl, rfl⟩
            go_wp2_with fail
            refine hR _ _ rfl ⟨_, rfl, fun _ => rfl, ?_⟩; clear hR hX R
            (repeat (first | (refine mix_pure (fun hne K hK => ?_); go_simp; refine hK _ ?_; clear hK K hne) | (refine mix_load ?_ (fun K hK => ?_); (focus (first | rfl | (go_simp; done))); go_simp; refine hK _ ?_; clear hK K) | (refine mix_skip ?_ (fun K hK => ?_); (focus (first | rfl | (go_simp; done))); go_simp; refine hK _ ?_; clear hK K)))
            refine mix_done ?_
            go_wp2_with fail
            go_meet
            exact ⟨by rw [HV.out], (Below.refl _ _).drew⟩
          have e1 : ((M8 : Int) != (b : Int)) = false := by rw [a1]; simp
          by_cases a2 : M10 = p
          rotate_left
          · have e2 : ((M10 : Int) != (p : Int)) = true := by rw [bne_iff_ne]; omega
            have HV := Lib.hid (HMR.out.mpr (.inr (.inl a2)))
            clear a1 a2
            (refine wp_region_mix [0, 1, 2, 4, 5, 3, 6, 7, 8, 9, 10, 12, 13, 11, 14, 15, 16, 17, 18, 19, 21, 22, 20, 23, 24, 25, 26, 27, 28, 29, 30, 31, 32, 33, 34, 35, 36, 37, 38, 39] [(true, true), (true, true), (true, true), (true, true), (true, false), (false, true), (true, true), (true, true), (true, true), (true, true), (true, true), (true, true), (true, false), (false, true), (true, true), (true, true), (true, true), (true, true), (true, true), (true, true), (true, true), (true, false), (false, true), (true, true), (true, true), (true, true), (true, true), (true, true), (true, true), (true, true), (false, false), (true, true), (true, true), (true, true), (true, true), (true, false), (true, true), (true, false), (true, true), (true, true)] [0, 0, 2, 7, 0, 16, 63, 127, 255, 255, 767, 2047, 255, 4351, 16383, 32767, 65535, 131071, 131071, 393215, 1048575, 131071, 2228223, 8388607, 16777215, 33554431, 67108863, 67108863, 201326591, 536870911, 1073741823, 2147483647, 4294967295, 8589934591, 17179869183, 34359738367, 17179869183, 85899345919, 274877906943, 549755813887] _ (by kernel_rfl) (by kernel_rfl) (rfl : _ = _) ?_; simp only [pickL, List.map_cons, List.map_nil, List.getD_cons_succ, List.getD_cons_zero])
            iterate 5 (first | (refine mix_pure (fun hne K hK => ?_); go_simp; refine hK _ ?_; clear hK K hne) | (refine mix_load ?_ (fun K hK => ?_); (focus (first | rfl | (go_simp; done))); go_simp; refine hK _ ?_; clear hK K) | (refine mix_skip ?_ (fun K hK => ?_); (focus (first | rfl | (go_simp; done))); go_simp; refine hK _ ?_; clear hK K))
            (refine mix_one (by first | rfl | (go_simp; done)) (fun R hR hX => ?_))
            go_wp2_with fail
            refine (HI.out.1).mono ?_
            rintro e wn ⟨rfl, rfl⟩
            go_wp2_with fail
            refine hR _ _ rfl ⟨_, rfl, fun _ => rfl, ?_⟩; clear hR hX R
            iterate 7 (first | (refine mix_pure (fun hne K hK => ?_); go_simp; refine hK _ ?_; clear hK K hne) | (refine mix_load ?_ (fun K hK => ?_); (focus (first | rfl | (go_simp; done))); go_simp; refine hK _ ?_; clear hK K) | (refine mix_skip ?_ (fun K hK => ?_); (focus (first | rfl | (go_simp; done))); go_simp; refine hK _ ?_; clear hK K))
            (refine mix_one (by first | rfl | (go_simp; done)) (fun R hR hX => ?_))
            go_wp2_with fail
            refine (HI.out.2.1).mono ?_
            rintro e wn ⟨rfl, rfl⟩
            go_wp2_with fail
            refine hR _ _ rfl ⟨_, rfl, fun _ => rfl, ?_⟩; clear hR hX R
            (repeat (first | (refine mix_pure (fun hne K hK => ?_); go_simp; refine hK _ ?_; clear hK K hne) | (refine mix_load ?_ (fun K hK => ?_); (focus (first | rfl | (go_simp; done))); go_simp; refine hK _ ?_; clear hK K) | (refine mix_skip ?_ (fun K hK => ?_); (focus (first | rfl | (go_simp; done))); go_simp; refine hK _ ?_; clear hK K)))
            refine mix_done ?_
            go_wp2_with fail
            go_meet
            exact ⟨by rw [HV.out], (Below.refl _ _).drew⟩
          have e2 : ((M10 : Int) != (p : Int)) = false := by rw [a2]; simp
          by_cases a3 : M12 = s
          rotate_left
          · have e3 : ((M12 : Int) != (s : Int)) = true := by rw [bne_iff_ne]; omega
            have HV := Lib.hid (HMR.out.mpr (.inr (.inr (.inl a3))))
            clear a1 a2 a3
            (refine wp_region_mix [0, 1, 2, 4, 5, 3, 6, 7, 8, 9, 10, 12, 13, 11, 14, 15, 16, 17, 18, 19, 21, 22, 20, 23, 24, 25, 26, 27, 28, 29, 30, 31, 32, 33, 34, 35, 36, 37, 38, 39] [(true, true), (true, true), (true, true), (true, true), (true, false), (false, true), (true, true), (true, true), (true, true), (true, true), (true, true), (true, true), (true, false), (false, true), (true, true), (true, true), (true, true), (true, true), (true, true), (true, true), (true, true), (true, false), (false, true), (true, true), (true, true), (true, true), (true, true), (true, true), (true, true), (true, true), (false, false), (true, true), (true, true), (true, true), (true, true), (true, false), (true, true), (true, false), (true, true), (true, true)] [0, 0, 2, 7, 0, 16, 63, 127, 255, 255, 767, 2047, 255, 4351, 16383, 32767, 65535, 131071, 131071, 393215, 1048575, 131071, 2228223, 8388607, 16777215, 33554431, 67108863, 67108863, 201326591, 536870911, 1073741823, 2147483647, 4294967295, 8589934591, 17179869183, 34359738367, 17179869183, 85899345919, 274877906943, 549755813887] _ (by kernel_rfl) (by kernel_rfl) (rfl : _ = _) ?_; simp only [pickL, List.map_cons, List.map_nil, List.getD_cons_succ, List.getD_cons_zero])
            iterate 5 (first | (refine mix_pure (fun hne K hK => ?_); go_simp; refine hK _ ?_; clear hK K hne) | (refine mix_load ?_ (fun K hK => ?_); (focus (first | rfl | (go_simp; done))); go_simp; refine hK _ ?_; clear hK K) | (refine mix_skip ?_ (fun K hK => ?_); (focus (first | rfl | (go_simp; done))); go_simp; refine hK _ ?_; clear hK K))
            (refine mix_one (by first | rfl | (go_simp; done)) (fun R hR hX => ?_))
            go_wp2_with fail
            refine (HI.out.1).mono ?_
            rintro e wn ⟨rfl, rfl⟩
            go_wp2_with fail
            refine hR _ _ rfl ⟨_, rfl, fun _ => rfl, ?_⟩; clear hR hX R
            iterate 7 (first | (refine mix_pure (fun hne K hK => ?_); go_simp; refine hK _ ?_; clear hK K hne) | (refine mix_load ?_ (fun K hK => ?_); (focus (first | rfl | (go_simp; done))); go_simp; refine hK _ ?_; clear hK K) | (refine mix_skip ?_ (fun K hK => ?_); (focus (first | rfl | (go_simp; done))); go_simp; refine hK _ ?_; clear hK K))
            (refine mix_one (by first | rfl | (go_simp; done)) (fun R hR hX => ?_))
            go_wp2_with fail
            refine (HI.out.2.1).mono ?_
            rintro e wn ⟨rfl, rfl⟩
            go_wp2_with fail
            refine hR _ _ rfl ⟨_, rfl, fun _ => rfl, ?_⟩; clear hR hX R
            iterate 8 (first | (refine mix_pure (fun hne K hK => ?_); go_simp; refine hK _ ?_; clear hK K hne) | (refine mix_load ?_ (fun K hK => ?_); (focus (first | rfl | (go_simp; done))); go_simp; refine hK _ ?_; clear hK K) | (refine mix_skip ?_ (fun K hK => ?_); (focus (first | rfl | (go_simp; done))); go_simp; refine hK _ ?_; clear hK K))
            (refine mix_one (by first | rfl | (go_simp; done)) (fun R hR hX => ?_))
            go_wp2_with fail
            refine (HI.out.2.2.1).mono ?_
            rintro e wn ⟨rfl, rfl⟩
            go_wp2_with fail
            refine hR _ _ rfl ⟨_, rfl, fun _ => rfl, ?_⟩; clear hR hX R
            (repeat (first | (refine mix_pure (fun hne K hK => ?_); go_simp; refine hK _ ?_; clear hK K hne) | (refine mix_load ?_ (fun K hK => ?_); (focus (first | rfl | (go_simp; done))); go_simp; refine hK _ ?_; clear hK K) | (refine mix_skip ?_ (fun K hK => ?_); (focus (first | rfl | (go_simp; done))); go_simp; refine hK _ ?_; clear hK K)))
            refine mix_done ?_
            go_wp2_with fail
            go_meet
            exact ⟨by rw [HV.out], (Below.refl _ _).drew⟩
          have e3 : ((M12 : Int) != (s : Int)) = false := by rw [a3]; simp
          cases Z with
          | false =>
            have HV := Lib.hid (HMR.out.mpr (.inr (.inr (.inr (.inl rfl)))))
            clear a1 a2 a3
            (refine wp_region_mix [0, 1, 2, 4, 5, 3, 6, 7, 8, 9, 10, 12, 13, 11, 14, 15, 16, 17, 18, 19, 21, 22, 20, 23, 24, 25, 26, 27, 28, 29, 30, 31, 32, 33, 34, 35, 36, 37, 38, 39] [(true, true), (true, true), (true, true), (true, true), (true, false), (false, true), (true, true), (true, true), (true, true), (true, true), (true, true), (true, true), (true, false), (false, true), (true, true), (true, true), (true, true), (true, true), (true, true), (true, true), (true, true), (true, false), (false, true), (true, true), (true, true), (true, true), (true, true), (true, true), (true, true), (true, true), (false, false), (true, true), (true, true), (true, true), (true, true), (true, false), (true, true), (true, false), (true, true), (true, true)] [0, 0, 2, 7, 0, 16, 63, 127, 255, 255, 767, 2047, 255, 4351, 16383, 32767, 65535, 131071, 131071, 393215, 1048575, 131071, 2228223, 8388607, 16777215, 33554431, 67108863, 67108863, 201326591, 536870911, 1073741823, 2147483647, 4294967295, 8589934591, 17179869183, 34359738367, 17179869183, 85899345919, 274877906943, 549755813887] _ (by kernel_rfl) (by kernel_rfl) (rfl : _ = _) ?_; simp only [pickL, List.map_cons, List.map_nil, List.getD_cons_succ, List.getD_cons_zero])
            iterate 5 (first | (refine mix_pure (fun hne K hK => ?_); go_simp; refine hK _ ?_; clear hK K hne) | (refine mix_load ?_ (fun K hK => ?_); (focus (first | rfl | (go_simp; done))); go_simp; refine hK _ ?_; clear hK K) | (refine mix_skip ?_ (fun K hK => ?_); (focus (first | rfl | (go_simp; done))); go_simp; refine hK _ ?_; clear hK K))
            (refine mix_one (by first | rfl | (go_simp; done)) (fun R hR hX => ?_))
            go_wp2_with fail
            refine (HI.out.1).mono ?_
            rintro e wn ⟨rfl, rfl⟩
            go_wp2_with fail
            refine hR _ _ rfl ⟨_, rfl, fun _ => rfl, ?_⟩; clear hR hX R
            iterate 7 (first | (refine mix_pure (fun hne K hK => ?_); go_simp; refine hK _ ?_; clear hK K hne) | (refine mix_load ?_ (fun K hK => ?_); (focus (first | rfl | (go_simp; done))); go_simp; refine hK _ ?_; clear hK K) | (refine mix_skip ?_ (fun K hK => ?_); (focus (first | rfl | (go_simp; done))); go_simp; refine hK _ ?_; clear hK K))
            (refine mix_one (by first | rfl | (go_simp; done)) (fun R hR hX => ?_))
            go_wp2_with fail
            refine (HI.out.2.1).mono ?_
            rintro e wn ⟨rfl, rfl⟩
            go_wp2_with fail
            refine hR _ _ rfl ⟨_, rfl, fun _ => rfl, ?_⟩; clear hR hX R
            iterate 8 (first | (refine mix_pure (fun hne K hK => ?_); go_simp; refine hK _ ?_; clear hK K hne) | (refine mix_load ?_ (fun K hK => ?_); (focus (first | rfl | (go_simp; done))); go_simp; refine hK _ ?_; clear hK K) | (refine mix_skip ?_ (fun K hK => ?_); (focus (first | rfl | (go_simp; done))); go_simp; refine hK _ ?_; clear hK K))
            (refine mix_one (by first | rfl | (go_simp; done)) (fun R hR hX => ?_))
            go_wp2_with fail
            refine (HI.out.2.2.1).mono ?_
            rintro e wn ⟨rfl, rfl⟩
            go_wp2_with fail
            refine hR _ _ rfl ⟨_, rfl, fun _ => rfl, ?_⟩; clear hR hX R
            iterate 7 (first | (refine mix_pure (fun hne K hK => ?_); go_simp; refine hK _ ?_; clear hK K hne) | (refine mix_load ?_ (fun K hK => ?_); (focus (first | rfl | (go_simp; done))); go_simp; refine hK _ ?_; clear hK K) | (refine mix_skip ?_ (fun K hK => ?_); (focus (first | rfl | (go_simp; done))); go_simp; refine hK _ ?_; clear hK K))
            (refine mix_one (by first | rfl | (go_simp; done)) (fun R hR hX => ?_))
            go_wp2_with fail
            refine (HI.out.2.2.2).mono ?_
            rintro e wn ⟨rfl, rfl⟩
            go_wp2_with fail
            refine hR _ _ rfl ⟨_, rfl, fun _ => rfl, ?_⟩; clear hR hX R
            (repeat (first | (refine mix_pure (fun hne K hK => ?_); go_simp; refine hK _ ?_; clear hK K hne) | (refine mix_load ?_ (fun K hK => ?_); (focus (first | rfl | (go_simp; done))); go_simp; refine hK _ ?_; clear hK K) | (refine mix_skip ?_ (fun K hK => ?_); (focus (first | rfl | (go_simp; done))); go_simp; refine hK _ ?_; clear hK K)))
            refine mix_done ?_
            go_wp2_with fail
            go_meet
            exact ⟨by rw [HV.out], (Below.refl _ _).drew⟩
          | true =>
            have hV : D = ((sq : Int) != (ep : Int)) := by
              by_cases h : sq = ep
              · have h1 : ((sq : Int) != (ep : Int)) = false := by rw [h]; simp
                rw [h1]
                cases hd : D with
                | false => rfl
                | true => rcases HMR.out.mp hd with h2 | h2 | h2 | h2 | h2 <;> first | exact absurd (by assumption) h2 | cases h2
              · have h1 : ((sq : Int) != (ep : Int)) = true := by rw [bne_iff_ne]; omega
                rw [h1]
                exact HMR.out.mpr (.inr (.inr (.inr (.inr h))))
            have HV := Lib.hid hV
            clear hV a1 a2 a3
            (refine wp_region_mix [0, 1, 2, 4, 5, 3, 6, 7, 8, 9, 10, 12, 13, 11, 14, 15, 16, 17, 18, 19, 21, 22, 20, 23, 24, 25, 26, 27, 28, 29, 30, 31, 32, 33, 34, 35, 36, 37, 38, 39] [(true, true), (true, true), (true, true), (true, true), (true, false), (false, true), (true, true), (true, true), (true, true), (true, true), (true, true), (true, true), (true, false), (false, true), (true, true), (true, true), (true, true), (true, true), (true, true), (true, true), (true, true), (true, false), (false, true), (true, true), (true, true), (true, true), (true, true), (true, true), (true, true), (true, true), (false, false), (true, true), (true, true), (true, true), (true, true), (true, false), (true, true), (true, false), (true, true), (true, true)] [0, 0, 2, 7, 0, 16, 63, 127, 255, 255, 767, 2047, 255, 4351, 16383, 32767, 65535, 131071, 131071, 393215, 1048575, 131071, 2228223, 8388607, 16777215, 33554431, 67108863, 67108863, 201326591, 536870911, 1073741823, 2147483647, 4294967295, 8589934591, 17179869183, 34359738367, 17179869183, 85899345919, 274877906943, 549755813887] _ (by kernel_rfl) (by kernel_rfl) (rfl : _ = _) ?_; simp only [pickL, List.map_cons, List.map_nil, List.getD_cons_succ, List.getD_cons_zero])
            iterate 5 (first | (refine mix_pure (fun hne K hK => ?_); go_simp; refine hK _ ?_; clear hK K hne) | (refine mix_load ?_ (fun K hK => ?_); (focus (first | rfl | (go_simp; done))); go_simp; refine hK _ ?_; clear hK K) | (refine mix_skip ?_ (fun K hK => ?_); (focus (first | rfl | (go_simp; done))); go_simp; refine hK _ ?_; clear hK K))
            (refine mix_one (by first | rfl | (go_simp; done)) (fun R hR hX => ?_))
            go_wp2_with fail
            refine (HI.out.1).mono ?_
            rintro e wn ⟨rfl, rfl⟩
            go_wp2_with fail
            refine hR _ _ rfl ⟨_, rfl, fun _ => rfl, ?_⟩; clear hR hX R
            iterate 7 (first | (refine mix_pure (fun hne K hK => ?_); go_simp; refine hK _ ?_; clear hK K hne) | (refine mix_load ?_ (fun K hK => ?_); (focus (first | rfl | (go_simp; done))); go_simp; refine hK _ ?_; clear hK K) | (refine mix_skip ?_ (fun K hK => ?_); (focus (first | rfl | (go_simp; done))); go_simp; refine hK _ ?_; clear hK K))
            (refine mix_one (by first | rfl | (go_simp; done)) (fun R hR hX => ?_))
            go_wp2_with fail
            refine (HI.out.2.1).mono ?_
            rintro e wn ⟨rfl, rfl⟩
            go_wp2_with fail
            refine hR _ _ rfl ⟨_, rfl, fun _ => rfl, ?_⟩; clear hR hX R
            iterate 8 (first | (refine mix_pure (fun hne K hK => ?_); go_simp; refine hK _ ?_; clear hK K hne) | (refine mix_load ?_ (fun K hK => ?_); (focus (first | rfl | (go_simp; done))); go_simp; refine hK _ ?_; clear hK K) | (refine mix_skip ?_ (fun K hK => ?_); (focus (first | rfl | (go_simp; done))); go_simp; refine hK _ ?_; clear hK K))
            (refine mix_one (by first | rfl | (go_simp; done)) (fun R hR hX => ?_))
            go_wp2_with fail
            refine (HI.out.2.2.1).mono ?_
            rintro e wn ⟨rfl, rfl⟩
            go_wp2_with fail
            refine hR _ _ rfl ⟨_, rfl, fun _ => rfl, ?_⟩; clear hR hX R
            iterate 7 (first | (refine mix_pure (fun hne K hK => ?_); go_simp; refine hK _ ?_; clear hK K hne) | (refine mix_load ?_ (fun K hK => ?_); (focus (first | rfl | (go_simp; done))); go_simp; refine hK _ ?_; clear hK K) | (refine mix_skip ?_ (fun K hK => ?_); (focus (first | rfl | (go_simp; done))); go_simp; refine hK _ ?_; clear hK K))
            (refine mix_one (by first | rfl | (go_simp; done)) (fun R hR hX => ?_))
            go_wp2_with fail
            refine (HI.out.2.2.2).mono ?_
            rintro e wn ⟨rfl, rfl⟩
            go_wp2_with fail
            refine hR _ _ rfl ⟨_, rfl, fun _ => rfl, ?_⟩; clear hR hX R
            (repeat (first | (refine mix_pure (fun hne K hK => ?_); go_simp; refine hK _ ?_; clear hK K hne) | (refine mix_load ?_ (fun K hK => ?_); (focus (first | rfl | (go_simp; done))); go_simp; refine hK _ ?_; clear hK K) | (refine mix_skip ?_ (fun K hK => ?_); (focus (first | rfl | (go_simp; done))); go_simp; refine hK _ ?_; clear hK K)))
            refine mix_done ?_
            go_wp2_with fail
            go_meet
            exact ⟨by rw [HV.out], (Below.refl _ _).drew⟩
        case rest =>
          obtain ⟨rfl, hbc⟩ := hcut
          have hBc := HW.out.1.trans (hbc.mono HW.out.1.size)
          have hRc := heap_keep hbc HW.out.2.2.1
          have hboxc := heap_keep hbc HW.out.2.2.2.2.2.1
          have hGc := heap_keep hbc HW.out.2.1
          have hownc := own_only HW.out.2.2.2.2.2.2 (Only.new hbc fun _ => False) (fun _ _ => id)
          have HC := Lib.hid (⟨hBc, hRc, hboxc, hGc, hownc⟩ : _ ∧ _ ∧ _ ∧ _ ∧ _)
          clear hBc hRc hboxc hGc hownc hbc HW
          cases D with
          | true =>
            have hnr : ¬ (mRead b p s ep d ∧ (mSet d).Ok n b) := fun h => HDD.out.mp rfl h.1
            have hRx := HC.out.2.1
            have hset := set5 (.int .i64 0) (.slice none 0 0) (.int .i64 0) (.int .i64 0) (.int .i64 0) hRx
            have hend := (HEP.out.1 hnr) _ (put5 (HC.out.1) (q + 1) (.int .i64 0) (.slice none 0 0) (.int .i64 0) (.int .i64 0) (.int .i64 0) HQL.out)
            have HE := Lib.hid (⟨hset, hend⟩ : _ ∧ _)
            have r0 := cells_at hRx 0 _ rfl
            have r1 := cells_at hRx 1 _ rfl
            have r2 := cells_at hRx 2 _ rfl
            have r3 := cells_at hRx 3 _ rfl
            have r4 := cells_at hRx 4 _ rfl
            have f0 := froz_at hRx 0
            have f1 := froz_at hRx 1
            have f2 := froz_at hRx 2
            have f3 := froz_at hRx 3
            have f4 := froz_at hRx 4
            simp only [List.getElem_toArray, List.getElem_cons_succ, List.getElem_cons_zero] at r0 r1 r2 r3 r4
            have hlr := heap_lt hRx
            clear hset hend hRx hnr
            go_wp2_with ((try simp only [Exit.inBlock, Exit.then]); refine bodyPost_ret (res_ct rfl rfl HE.out.1 Try.underlying33 rfl (by kernel_rfl)) rfl ?_; exact HE.out.2)
          | false =>
            have hread : mRead b p s ep d := by
              by_cases h : mRead b p s ep d
              · exact h
              · exact absurd (HDD.out.mpr h) (by decide)
            have hno := HEP.out.1
            have hys := HEP.out.2
            rw [HMC.out.2.2.2.1] at hno hys
            obtain ⟨S, hSd⟩ : ∃ S : Ms, S = ⟨sq, L, (x5 : Nat), (x6 : Nat), (x7 : Nat)⟩ := ⟨_, rfl⟩
            have hms : RMsAt wc S (.agg #[.int .i64 sq, .slice a3 n5 c3, .int .i64 x5, .int .i64 x6, .int .i64 x7]) := by
              rw [hSd]; exact ⟨_, rfl, RV.own HC.out.2.2.2.2⟩
            have hck := msrcheck_calls n b p s S _ wc hms HGO.out (by rw [hSd]; show L.length ≤ 1000; have := HMC.out.2.2.2.2; omega)
            rw [← hSd] at hno hys
            have HCK := Lib.hid (⟨hck, hno, hys, hread⟩ : _ ∧ _ ∧ _ ∧ _)
            have HSD := Lib.hid hSd
            have y0 := cells_at HC.out.2.2.1 0 _ rfl
            have y1 := cells_at HC.out.2.2.1 1 _ rfl
            have y2 := cells_at HC.out.2.2.1 2 _ rfl
            have y3 := cells_at HC.out.2.2.1 3 _ rfl
            have y4 := cells_at HC.out.2.2.1 4 _ rfl
            have g0 := cells_at HC.out.2.2.2.1 0 _ rfl
            have g1 := cells_at HC.out.2.2.2.1 1 _ rfl
            have g2 := cells_at HC.out.2.2.2.1 2 _ rfl
            have g3 := cells_at HC.out.2.2.2.1 3 _ rfl
            simp only [List.getElem_toArray, List.getElem_cons_succ, List.getElem_cons_zero] at y0 y1 y2 y3 y4 g0 g1 g2 g3
            have hlr := heap_lt HC.out.2.2.1
            have hlg := heap_lt HC.out.2.2.2.1
            clear hno hys hread hms hck hSd
            go_wp2_with fail
            refine HCK.out.1.mono ?_
            rintro e wk ⟨rfl, hbk2⟩
            clear y0 y1 y2 y3 y4 g0 g1 g2 g3 hlr hlg
            have hBk := HC.out.1.trans (hbk2.mono HC.out.1.size)
            have hRk := heap_keep hbk2 HC.out.2.1
            have hboxk := heap_keep hbk2 HC.out.2.2.1
            have hownk := own_only HC.out.2.2.2.2 (Only.new hbk2 fun _ => False) (fun _ _ => id)
            have HK := Lib.hid (⟨hBk, hRk, hboxk, hownk⟩ : _ ∧ _ ∧ _ ∧ _)
            clear hBk hRk hboxk hownk hbk2
            by_cases hok : S.Ok n b
            rotate_left
            · rw [show S.err n b = 62 from if_neg hok]
              have hnr : ¬ (mRead b p s ep d ∧ S.Ok n b) := fun h => hok h.2
              have hRx := HK.out.2.1
              have hset := set5 (.int .i64 0) (.slice none 0 0) (.int .i64 0) (.int .i64 0) (.int .i64 0) hRx
              have hend := (HCK.out.2.1 hnr) _ (put5 (HK.out.1) (q + 1) (.int .i64 0) (.slice none 0 0) (.int .i64 0) (.int .i64 0) (.int .i64 0) HQL.out)
              have HE := Lib.hid (⟨hset, hend⟩ : _ ∧ _)
              have r0 := cells_at hRx 0 _ rfl
              have r1 := cells_at hRx 1 _ rfl
              have r2 := cells_at hRx 2 _ rfl
              have r3 := cells_at hRx 3 _ rfl
              have r4 := cells_at hRx 4 _ rfl
              have f0 := froz_at hRx 0
              have f1 := froz_at hRx 1
              have f2 := froz_at hRx 2
              have f3 := froz_at hRx 3
              have f4 := froz_at hRx 4
              simp only [List.getElem_toArray, List.getElem_cons_succ, List.getElem_cons_zero] at r0 r1 r2 r3 r4
              have hlr := heap_lt hRx
              clear hset hend hRx hnr hok
              go_wp2_with ((try simp only [Exit.inBlock, Exit.then]); refine bodyPost_ret (res_ct rfl rfl HE.out.1 Try.underlying33 rfl (by kernel_rfl)) rfl ?_; exact HE.out.2)
            rw [show S.err n b = 0 from if_pos hok]
            have y0 := cells_at HK.out.2.2.1 0 _ rfl
            have y1 := cells_at HK.out.2.2.1 1 _ rfl
            have y2 := cells_at HK.out.2.2.1 2 _ rfl
            have y3 := cells_at HK.out.2.2.1 3 _ rfl
            have y4 := cells_at HK.out.2.2.1 4 _ rfl
            simp only [List.getElem_toArray, List.getElem_cons_succ, List.getElem_cons_zero] at y0 y1 y2 y3 y4
            have hlr2 := heap_lt HK.out.2.2.1
            have hRx := HK.out.2.1
            have hset := set5 (.int .i64 sq) (.slice a3 n5 c3) (.int .i64 x5) (.int .i64 x6) (.int .i64 x7) hRx
            have hri := RV.own (own_only HK.out.2.2.2 (only5 wk (q + 1) (.int .i64 sq) (.slice a3 n5 c3) (.int .i64 x5) (.int .i64 x6) (.int .i64 x7)) (fun x hx e => by have := (HK.out.2.2.2.lt x hx).1; have := HQR.out; omega))
            have hend := HCK.out.2.2.1 ⟨HCK.out.2.2.2, hok⟩ (.slice a3 n5 c3) _ (by rw [HSD.out]; exact hri) (put5 HK.out.1 (q + 1) (.int .i64 sq) (.slice a3 n5 c3) (.int .i64 x5) (.int .i64 x6) (.int .i64 x7) HQL.out)
            rw [HSD.out] at hend
            have HE := Lib.hid (⟨hset, hend⟩ : _ ∧ _)
            have r0 := cells_at hRx 0 _ rfl
            have r1 := cells_at hRx 1 _ rfl
            have r2 := cells_at hRx 2 _ rfl
            have r3 := cells_at hRx 3 _ rfl
            have r4 := cells_at hRx 4 _ rfl
            have f0 := froz_at hRx 0
            have f1 := froz_at hRx 1
            have f2 := froz_at hRx 2
            have f3 := froz_at hRx 3
            have f4 := froz_at hRx 4
            simp only [List.getElem_toArray, List.getElem_cons_succ, List.getElem_cons_zero] at r0 r1 r2 r3 r4
            have hlr := heap_lt hRx
            clear hset hend hri hRx hok
            go_wp2_with ((try simp only [Exit.inBlock, Exit.then]); refine bodyPost_ret (res_ct rfl rfl HE.out.1 Try.underlying33 rfl (by kernel_rfl)) rfl ?_; exact HE.out.2)
end Go.Proofs.Ytogejjbclimjjaa
