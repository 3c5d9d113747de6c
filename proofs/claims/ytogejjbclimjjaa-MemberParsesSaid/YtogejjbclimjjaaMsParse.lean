/- member.Parse. -/
--only r2
import Derived.Test.YtogejjbclimjjaaMsDec1
import Derived.Test.YtogejjbclimjjaaMsCheck
import Derived.Test.YtogejjbclimjjaaOpen
import Derived.Test.YtogejjbclimjjaaTabDec
namespace Go.Proofs.Ytogejjbclimjjaa
set_option linter.unusedVariables false
set_option linter.unusedSimpArgs false
open Go.RowKit

def Ms.zero : Ms := ⟨0, [], 0, 0, 0⟩
/-- the number of a page that is sealed as a set's -/
def mEp (d l : List UInt8) : Option Nat := match opened d l with
  | some h => if h.kind = 2 then some h.epoch else none
  | none => none
open Classical in
noncomputable def mParse (n b p s : Nat) (d l : List UInt8) : Ms × Nat := match mEp d l with
  | none => (.zero, 63)
  | some ep => if mRead b p s ep d ∧ (mSet d).Ok n b then (mSet d, 0) else (.zero, 62)
def MParseEnds (n b p s : Nat) (d l : List UInt8) (w : World) (e : Ending) (w' : World) : Prop :=
  ∃ v, e = .returned (.tuple #[(mParse n b p s d l).1.val v, .int .i64 (mParse n b p s d l).2]) ∧ MsAt w' (mParse n b p s d l).1 v ∧ Below w.heap.size w w'
theorem mSet_seq (l : List UInt8) : (mSet l).seq < 4294967296 := dTab_seq l
theorem hdrOf_epoch_lt {d l : List UInt8} {h : Hdr} (ho : opened d l = some h) : h.epoch < 4294967296 := by
  unfold opened at ho
  split at ho
  · simp only [Option.some.injEq] at ho
    rw [← ho]
    unfold hdrOf leAt
    have h1 := leNum_lt ((l.drop 4).take 4)
    have h2 : ((l.drop 4).take 4).length ≤ 4 := by simp; omega
    have h3 : 256 ^ ((l.drop 4).take 4).length ≤ 256 ^ 4 := Nat.pow_le_pow_right (by omega) h2
    show leNum ((l.drop 4).take 4) < 4294967296
    omega
  · cases ho

set_option maxRecDepth 100000 in
set_option maxHeartbeats 4000000 in
theorem msparse_calls (n b p s : Nat) (vd vm : Value) (d l : List UInt8) (w : World) (hd : RB w vd d) (hm : RB w vm l) (hg : geoOk n b p s) :
    Calls Try.prog 16 #[geoV n b p s, vd, vm] w (MParseEnds n b p s d l w) := by
  have h63 : mEp d l = none → ∀ w', Below w.heap.size w w' → MParseEnds n b p s d l w (.returned (.tuple #[.agg #[.int .u32 0, .slice none 0 0, .int .i64 0, .int .i64 0, .int .i64 0], .int .i64 63])) w' := fun h w' hb =>
    ⟨.slice none 0 0, by unfold mParse; rw [h]; rfl, by unfold mParse; rw [h]; exact ⟨RI.nil _, by show 0 < 4294967296; decide⟩, hb⟩
  have h62 : ∀ ep, mEp d l = some ep → ¬ (mRead b p s ep d ∧ (mSet d).Ok n b) → ∀ w', Below w.heap.size w w' → MParseEnds n b p s d l w (.returned (.tuple #[.agg #[.int .u32 0, .slice none 0 0, .int .i64 0, .int .i64 0, .int .i64 0], .int .i64 62])) w' := fun ep h h2 w' hb =>
    ⟨.slice none 0 0, by unfold mParse; rw [h]; simp only [if_neg h2]; rfl, by unfold mParse; rw [h]; simp only [if_neg h2]; exact ⟨RI.nil _, by show 0 < 4294967296; decide⟩, hb⟩
  have hyes : ∀ ep, mEp d l = some ep → (mRead b p s ep d ∧ (mSet d).Ok n b) → ∀ cv w', RI w' cv (mSet d).chips → Below w.heap.size w w' → MParseEnds n b p s d l w (.returned (.tuple #[.agg ((mSet d).cells cv), .int .i64 0])) w' := fun ep h h2 cv w' h3 hb =>
    ⟨cv, by unfold mParse; rw [h]; simp only [if_pos h2]; rfl, by unfold mParse; rw [h]; simp only [if_pos h2]; exact ⟨h3, mSet_seq d⟩, hb⟩
  generalize MParseEnds n b p s d l w = Post at h63 h62 hyes ⊢
  have HNO := Lib.hid (⟨h63, h62, hyes⟩ : _ ∧ _ ∧ _)
  clear h63 h62 hyes
  obtain ⟨ad, cd, rfl, -, -⟩ := hd.form
  obtain ⟨am, cm, rfl, -, -⟩ := hm.form
  have hcf : ∀ (args : Array Value) (w : World), (callFunc 43 args).run Try.prog w = .ok (.enter 43 args) w := fun args w => by
    first | rfl | kernel_rfl
  have HCF := Lib.hid hcf
  obtain ⟨q, hq⟩ : ∃ q, q = w.heap.size := ⟨_, rfl⟩
  obtain ⟨w2, hw2⟩ : ∃ w2, w2 = (w.alloc (.cells #[.int .i64 n, .int .i64 b, .int .i64 p, .int .i64 s] 28)).alloc (.cells #[.int .u32 0, .slice none 0 0, .int .i64 0, .int .i64 0, .int .i64 0] 37) := ⟨_, rfl⟩
  have hb2 : Below w.heap.size w w2 := by rw [hw2]; exact ((Below.refl w.heap.size w).alloc (Nat.le_refl _) _).alloc (by simp) _
  have hG2 : w2.heap[q]? = some (.cells #[.int .i64 n, .int .i64 b, .int .i64 p, .int .i64 s] 28 (0, 0)) := by rw [hw2]; exact heap_old _ (heap_is hq)
  have hR2 : w2.heap[q + 1]? = some (.cells #[.int .u32 0, .slice none 0 0, .int .i64 0, .int .i64 0, .int .i64 0] 37 (0, 0)) := by rw [hw2]; exact heap_is (by simp [hq])
  have hop := open_calls _ _ d l w2 (hd.below hb2) (hm.below hb2)
  have hqw : w.heap.size ≤ q + 1 := by omega
  have H2 := Lib.hid (⟨hop, hb2, hG2, hR2, hd.below hb2, hqw, hg⟩ : _ ∧ _ ∧ _ ∧ _ ∧ _ ∧ _ ∧ _)
  have HW2 := Lib.hid hw2
  clear hop hb2 hG2 hR2 hd hm hw2 hcf hqw hg
  go_enter Try.func16, Try.ntmps16
  go_upto_region 1 with (fail)
  rw [← hq, ← HW2.out]
  clear hq HW2
  go_wp2_with fail
  refine H2.out.1.mono ?_
  rintro e w3 ⟨rfl, hb3⟩
  obtain ⟨hb, hhb⟩ : ∃ hb, hb = w3.heap.size := ⟨_, rfl⟩
  have hB3 := H2.out.2.1.trans (hb3.mono H2.out.2.1.size)
  have hG3 := heap_keep hb3 H2.out.2.2.1
  have hR3 := heap_keep hb3 H2.out.2.2.2.1
  have hd3 := H2.out.2.2.2.2.1.below hb3
  obtain ⟨O, hO⟩ : ∃ O, O = opened d l := ⟨_, rfl⟩
  rw [← hO]
  have H3 := Lib.hid (⟨hB3, hG3, hR3, hd3, hO⟩ : _ ∧ _ ∧ _ ∧ _ ∧ _)
  clear hB3 hG3 hR3 hd3 hO hb3
  cases O with
  | none =>
    rw [show openedV none = .tuple #[.agg #[.int .u8 0, .int .u32 0, .int .u32 0, .int .u16 0, .int .u16 0, .int .u32 0, .int .u32 0], .bool false] from rfl]
    have hep : mEp d l = none := by unfold mEp; rw [← H3.out.2.2.2.2]
    obtain ⟨w4, hw4⟩ : ∃ w4, w4 = w3.alloc (.cells #[.int .u8 0, .int .u32 0, .int .u32 0, .int .u16 0, .int .u16 0, .int .u32 0, .int .u32 0] 98) := ⟨_, rfl⟩
    have hb34 : Below w3.heap.size w3 w4 := by rw [hw4]; exact (Below.refl _ _).alloc (Nat.le_refl _) _
    have hR4 := heap_keep hb34 H3.out.2.2.1
    have hB4 := H3.out.1.trans (hb34.mono H3.out.1.size)
    have r0 := cells_at hR4 0 _ rfl
    have r1 := cells_at hR4 1 _ rfl
    have r2 := cells_at hR4 2 _ rfl
    have r3 := cells_at hR4 3 _ rfl
    have r4 := cells_at hR4 4 _ rfl
    have f0 := froz_at hR4 0
    have f1 := froz_at hR4 1
    have f2 := froz_at hR4 2
    have f3 := froz_at hR4 3
    have f4 := froz_at hR4 4
    simp only [List.getElem_toArray, List.getElem_cons_succ, List.getElem_cons_zero] at r0 r1 r2 r3 r4
    have hlr := heap_lt hR4
    have hset := set5 (.int .u32 0) (.slice none 0 0) (.int .i64 0) (.int .i64 0) (.int .i64 0) hR4
    have hend := HNO.out.1 hep _ (put5 hB4 (q + 1) (.int .u32 0) (.slice none 0 0) (.int .i64 0) (.int .i64 0) (.int .i64 0) H2.out.2.2.2.2.2.1)
    have HX := Lib.hid (⟨hend, hset⟩ : _ ∧ _)
    have HW4 := Lib.hid hw4
    clear hep hw4 hb34 hR4 hB4 hset hend
    go_upto_region 2 with (fail)
    rw [← HW4.out]
    clear HW4
    go_wp2_with fail
    refine bodyPost_ret (res_ct rfl rfl HX.out.2 Try.underlying37 rfl (by kernel_rfl)) rfl HX.out.1
  | some h =>
    have hepl := hdrOf_epoch_lt H3.out.2.2.2.2.symm
    have hmep : mEp d l = if h.kind = 2 then some h.epoch else none := by unfold mEp; rw [← H3.out.2.2.2.2]
    obtain ⟨hk, ep, hba, hix, hct, hbk, hmo⟩ := h
    simp only at hmep hepl
    rw [show openedV (some ⟨hk, ep, hba, hix, hct, hbk, hmo⟩) = .tuple #[.agg #[.int .u8 hk, .int .u32 ep, .int .u32 hba, .int .u16 hix, .int .u16 hct, .int .u32 hbk, .int .u32 hmo], .bool true] from rfl]
    obtain ⟨w4, hw4⟩ : ∃ w4, w4 = w3.alloc (.cells #[.int .u8 hk, .int .u32 ep, .int .u32 hba, .int .u16 hix, .int .u16 hct, .int .u32 hbk, .int .u32 hmo] 98) := ⟨_, rfl⟩
    have hb34 : Below w3.heap.size w3 w4 := by rw [hw4]; exact (Below.refl _ _).alloc (Nat.le_refl _) _
    have hH4 : w4.heap[hb]? = some (.cells #[.int .u8 hk, .int .u32 ep, .int .u32 hba, .int .u16 hix, .int .u16 hct, .int .u32 hbk, .int .u32 hmo] 98 (0, 0)) := by rw [hw4]; exact heap_is hhb
    have hR4 := heap_keep hb34 H3.out.2.2.1
    have hG4 := heap_keep hb34 H3.out.2.1
    have hB4 := H3.out.1.trans (hb34.mono H3.out.1.size)
    have hd4 := H3.out.2.2.2.1.below hb34
    have hs4 : w4.heap.size = hb + 1 := by rw [hw4, hhb]; simp
    have HW4 := Lib.hid hw4
    have hqh : q + 1 < hb := by rw [hhb]; exact heap_lt H3.out.2.2.1
    have H4 := Lib.hid (⟨hB4, hG4, hR4, hH4, hd4, hs4, hmep⟩ : _ ∧ _ ∧ _ ∧ _ ∧ _ ∧ _ ∧ _)
    have h0 := cells_at hH4 0 _ rfl
    simp only [List.getElem_toArray, List.getElem_cons_zero] at h0
    have hlh := heap_lt hH4
    clear hw4 hb34 hR4 hG4 hB4 hd4 hs4 hH4 hmep
    go_upto_region 2 with (fail)
    rw [← hhb, ← HW4.out]
    clear hhb HW4
    by_cases hk2 : hk = 2
    rotate_left
    · have e1 : ((hk : Int) != 2) = true := by rw [bne_iff_ne]; omega
      have hep : mEp d l = none := by rw [H4.out.2.2.2.2.2.2, if_neg hk2]
      have hR4 := H4.out.2.2.1
      have r0 := cells_at hR4 0 _ rfl
      have r1 := cells_at hR4 1 _ rfl
      have r2 := cells_at hR4 2 _ rfl
      have r3 := cells_at hR4 3 _ rfl
      have r4 := cells_at hR4 4 _ rfl
      have f0 := froz_at hR4 0
      have f1 := froz_at hR4 1
      have f2 := froz_at hR4 2
      have f3 := froz_at hR4 3
      have f4 := froz_at hR4 4
      simp only [List.getElem_toArray, List.getElem_cons_succ, List.getElem_cons_zero] at r0 r1 r2 r3 r4
      have hlr := heap_lt hR4
      have hset := set5 (.int .u32 0) (.slice none 0 0) (.int .i64 0) (.int .i64 0) (.int .i64 0) hR4
      have hend := HNO.out.1 hep _ (put5 H4.out.1 (q + 1) (.int .u32 0) (.slice none 0 0) (.int .i64 0) (.int .i64 0) (.int .i64 0) H2.out.2.2.2.2.2.1)
      have HX := Lib.hid (⟨hend, hset⟩ : _ ∧ _)
      clear hep hR4 hset hend hk2
      go_wp2_with fail
      refine bodyPost_ret (res_ct rfl rfl HX.out.2 Try.underlying37 rfl (by kernel_rfl)) rfl HX.out.1
    subst hk2
    have hep : mEp d l = some ep := by rw [H4.out.2.2.2.2.2.2, if_pos rfl]
    have HEP := Lib.hid hep
    clear hep
    obtain ⟨w6, hw6⟩ : ∃ w6, w6 = (w4.alloc (.cells #[.int .u32 0, .slice none 0 0, .int .i64 0, .int .i64 0, .int .i64 0] 37)).alloc (.cells #[.bool false] 4) := ⟨_, rfl⟩
    have hb46 : Below w4.heap.size w4 w6 := by rw [hw6]; exact ((Below.refl _ _).alloc (Nat.le_refl _) _).alloc (by simp) _
    have hT6 : w6.heap[hb + 1]? = some (.cells #[.int .u32 0, .slice none 0 0, .int .i64 0, .int .i64 0, .int .i64 0] 37 (0, 0)) := by rw [hw6]; exact heap_old _ (heap_is H4.out.2.2.2.2.2.1.symm)
    have hZ6 : w6.heap[hb + 1 + 1]? = some (.cells #[.bool false] 4 (0, 0)) := by rw [hw6]; exact heap_is (by simp [H4.out.2.2.2.2.2.1])
    have hs6 : w6.heap.size = hb + 3 := by rw [hw6]; simp [H4.out.2.2.2.2.2.1]
    have hG6 := heap_keep hb46 H4.out.2.1
    have hR6 := heap_keep hb46 H4.out.2.2.1
    have hH6 := heap_keep hb46 H4.out.2.2.2.1
    have hd6 := H4.out.2.2.2.2.1.below hb46
    have hB6 := H4.out.1.trans (hb46.mono H4.out.1.size)
    have HW6 := Lib.hid hw6
    have hv6 : RB w6 (.slice ad d.length cd) d := hd6
    have hrc := read_calls 43 #[ptrV (hb + 1), ptrV q, ptrV hb, ptrV (hb + 1 + 1)] _ d w6 (fun x => x = hb + 1 ∨ x = hb + 1 + 1) (MDec1 (w6.heap.size + 1) (hb + 1) (hb + 1 + 1) b p s ep d) hv6 (by omega) HCF.out (by
      intro w7 r hb7 hr hRd _
      refine (mdec1_calls r (hb + 1) q hb (hb + 1 + 1) n b p s ep _ _ d w7 hRd (heap_keep hb7 hT6) (heap_keep hb7 hZ6) (heap_keep hb7 hG6) (heap_keep hb7 hH6) rfl (by omega) (by omega) (by omega) ⟨by omega, by omega, by omega⟩ ⟨by omega, by omega, by omega⟩).mono ?_
      rintro e w8 ⟨ok, h1, h2, h3⟩
      have := heap_lt hRd.cell
      exact ⟨ok, h1, h2.mono (by omega), h3⟩)
    have H6 := Lib.hid (⟨hrc, hB6, hG6, hR6, hs6, hqh, H2.out.2.2.2.2.2.1, H2.out.2.2.2.2.2.2⟩ : _ ∧ _ ∧ _ ∧ _ ∧ _ ∧ _ ∧ _ ∧ _)
    have hs4 := H4.out.2.2.2.2.2.1
    clear hrc hB6 hG6 hR6 hs6 hqh hT6 hZ6 hH6 hd6 hv6 hb46 hw6 H2 H3
    simp only [show ((2 : Nat) : Int) = 2 from rfl] at h0 ⊢
    go_upto_region 6 with (fail)
    clear h0 hlh hs4
    rw [← HW6.out]
    clear HW6
    go_wp2_with fail
    refine H6.out.1.mono ?_
    rintro e w8 ⟨bb, rfl, w7, ⟨h1, h2⟩, h3, h4⟩
    have hO := h4.trans h3 (fun x hx e => by rw [e] at hx; exact absurd hx (Nat.lt_irrefl _))
    have hR8 := hO.at H6.out.2.2.2.1 (by have := H6.out.2.2.2.2.2.1; show ¬ (_ ∨ _); omega)
    have hB8 : Below w.heap.size w w8 := H6.out.2.1.trans (hO.below (B := w.heap.size) H6.out.2.1.size fun x hx h => by have := H6.out.2.2.2.2.2.1; have := H6.out.2.2.2.2.2.2.1; rcases h with h | h <;> omega)
    have H8 := Lib.hid (⟨h1, h2, h3, h4, hB8, hR8, hO⟩ : _ ∧ _ ∧ _ ∧ _ ∧ _ ∧ _ ∧ _)
    clear h1 h2 h3 h4 hO
    cases bb with
    | false =>
      rw [if_neg (by decide : ¬ (false = true))]
      have hend := HNO.out.2.1 ep HEP.out (fun h => H8.out.2.1 rfl h.1) _ (put5 hB8 (q + 1) (.int .u32 0) (.slice none 0 0) (.int .i64 0) (.int .i64 0) (.int .i64 0) H6.out.2.2.2.2.2.2.1)
      have hset := set5 (.int .u32 0) (.slice none 0 0) (.int .i64 0) (.int .i64 0) (.int .i64 0) hR8
      have HX := Lib.hid (⟨hend, hset⟩ : _ ∧ _)
      have r0 := cells_at hR8 0 _ rfl
      have r1 := cells_at hR8 1 _ rfl
      have r2 := cells_at hR8 2 _ rfl
      have r3 := cells_at hR8 3 _ rfl
      have r4 := cells_at hR8 4 _ rfl
      have f0 := froz_at hR8 0
      have f1 := froz_at hR8 1
      have f2 := froz_at hR8 2
      have f3 := froz_at hR8 3
      have f4 := froz_at hR8 4
      simp only [List.getElem_toArray, List.getElem_cons_succ, List.getElem_cons_zero] at r0 r1 r2 r3 r4
      have hlr := heap_lt hR8
      clear hend hset hR8 hB8 
      go_wp2_with fail
      refine bodyPost_ret (res_ct rfl rfl HX.out.2 Try.underlying37 rfl (by kernel_rfl)) rfl HX.out.1
    | true =>
      rw [if_pos rfl]
      obtain ⟨rt, hz7, hrt, hbx⟩ := H8.out.1 rfl
      have hz8 := H8.out.2.2.1.at hz7 (by have := H6.out.2.2.2.2.1; show ¬ _ = w6.heap.size; omega)
      have z0 := cells_at hz8 0 _ rfl
      simp only [List.getElem_toArray, List.getElem_cons_zero] at z0
      have hlz := heap_lt hz8
      have HRT := Lib.hid (⟨hrt, hbx⟩ : _ ∧ _)
      clear hz7 hrt hbx hz8
      cases rt with
      | false =>
        have hend := HNO.out.2.1 ep HEP.out (fun h => by have := HRT.out.1.mpr h.1; cases this) _ (put5 hB8 (q + 1) (.int .u32 0) (.slice none 0 0) (.int .i64 0) (.int .i64 0) (.int .i64 0) H6.out.2.2.2.2.2.2.1)
        have hset := set5 (.int .u32 0) (.slice none 0 0) (.int .i64 0) (.int .i64 0) (.int .i64 0) hR8
        have HX := Lib.hid (⟨hend, hset⟩ : _ ∧ _)
        have r0 := cells_at hR8 0 _ rfl
        have r1 := cells_at hR8 1 _ rfl
        have r2 := cells_at hR8 2 _ rfl
        have r3 := cells_at hR8 3 _ rfl
        have r4 := cells_at hR8 4 _ rfl
        have f0 := froz_at hR8 0
        have f1 := froz_at hR8 1
        have f2 := froz_at hR8 2
        have f3 := froz_at hR8 3
        have f4 := froz_at hR8 4
        simp only [List.getElem_toArray, List.getElem_cons_succ, List.getElem_cons_zero] at r0 r1 r2 r3 r4
        have hlr := heap_lt hR8
        clear hend hset hR8 hB8 
        go_wp2_with fail
        refine bodyPost_ret (res_ct rfl rfl HX.out.2 Try.underlying37 rfl (by kernel_rfl)) rfl HX.out.1
      | true =>
        have hread := HRT.out.1.mp rfl
        obtain ⟨cv, hbx7, hown7⟩ := HRT.out.2 rfl
        have hbx8 := H8.out.2.2.1.at hbx7 (by have := H6.out.2.2.2.2.1; show ¬ _ = w6.heap.size; omega)
        have hown8 := own_only hown7 H8.out.2.2.1 (fun x hx e => by have := (hown7.lt x hx).1; omega)
        have hri : RI w8 cv (mSet d).chips := RV.own hown8
        obtain ⟨M, hM⟩ : ∃ M, M = mSet d := ⟨_, rfl⟩
        have hms : MsAt w8 M cv := by rw [hM]; exact ⟨hri, mSet_seq d⟩
        have hcl : M.chips.length ≤ 1000 := by rw [hM]; show (intsOf _).length ≤ 1000; rw [intsOf_length]; have := getN_lt d 4; simp; unfold mN; omega
        have hck := mscheck_calls n b p s M cv w8 hms H6.out.2.2.2.2.2.2.2 hcl
        have hgeo := H8.out.2.2.2.2.2.2.at H6.out.2.2.1 (by have := H6.out.2.2.2.2.2.1; show ¬ (_ ∨ _); omega)
        rw [← hM] at hbx8
        have HM := Lib.hid hM
        have HRD := Lib.hid hread
        obtain ⟨ca, ck, rfl, -, -⟩ := hms.c.form
        obtain ⟨sq, xs, sp, dd, dn⟩ := M
        unfold Ms.cells at hbx8
        unfold Ms.val Ms.cells MCheckEnds at hck
        simp only at hbx8 hck hms
        have t0 := cells_at hbx8 0 _ rfl
        have t1 := cells_at hbx8 1 _ rfl
        have t2 := cells_at hbx8 2 _ rfl
        have t3 := cells_at hbx8 3 _ rfl
        have t4 := cells_at hbx8 4 _ rfl
        have g0 := cells_at hgeo 0 _ rfl
        have g1 := cells_at hgeo 1 _ rfl
        have g2 := cells_at hgeo 2 _ rfl
        have g3 := cells_at hgeo 3 _ rfl
        simp only [List.getElem_toArray, List.getElem_cons_succ, List.getElem_cons_zero] at t0 t1 t2 t3 t4 g0 g1 g2 g3
        have hlt := heap_lt hbx8
        have hlg := heap_lt hgeo
        have H9 := Lib.hid (⟨hck, hbx8, hms, hown8⟩ : _ ∧ _ ∧ _ ∧ _)
        clear hck hbx8 hms hown8 hri hcl hgeo hM hread hbx7 hown7 hR8 hB8
        go_wp2_with fail
        refine H9.out.1.mono ?_
        rintro e w9 ⟨rfl, hb9⟩
        have hR8 := heap_keep hb9 H8.out.2.2.2.2.2.1
        have hB8 := H8.out.2.2.2.2.1.trans (hb9.mono H8.out.2.2.2.2.1.size)
        have hbx9 := heap_keep hb9 H9.out.2.1
        clear t0 t1 t2 t3 t4 g0 g1 g2 g3 hlt hlg
        by_cases hok : (⟨sq, xs, sp, dd, dn⟩ : Ms).Ok n b
        rotate_left
        · rw [show (⟨sq, xs, sp, dd, dn⟩ : Ms).err n b = 62 from if_neg hok]
          have hbad : ¬ (mRead b p s ep d ∧ (mSet d).Ok n b) := fun h => hok (by rw [HM.out]; exact h.2)
          clear hok
          have hend := HNO.out.2.1 ep HEP.out (hbad) _ (put5 hB8 (q + 1) (.int .u32 0) (.slice none 0 0) (.int .i64 0) (.int .i64 0) (.int .i64 0) H6.out.2.2.2.2.2.2.1)
          have hset := set5 (.int .u32 0) (.slice none 0 0) (.int .i64 0) (.int .i64 0) (.int .i64 0) hR8
          have HX := Lib.hid (⟨hend, hset⟩ : _ ∧ _)
          have r0 := cells_at hR8 0 _ rfl
          have r1 := cells_at hR8 1 _ rfl
          have r2 := cells_at hR8 2 _ rfl
          have r3 := cells_at hR8 3 _ rfl
          have r4 := cells_at hR8 4 _ rfl
          have f0 := froz_at hR8 0
          have f1 := froz_at hR8 1
          have f2 := froz_at hR8 2
          have f3 := froz_at hR8 3
          have f4 := froz_at hR8 4
          simp only [List.getElem_toArray, List.getElem_cons_succ, List.getElem_cons_zero] at r0 r1 r2 r3 r4
          have hlr := heap_lt hR8
          clear hend hset hR8 hB8 hbad hbx9 hb9
          go_wp2_with fail
          refine bodyPost_ret (res_ct rfl rfl HX.out.2 Try.underlying37 rfl (by kernel_rfl)) rfl HX.out.1
        · rw [show (⟨sq, xs, sp, dd, dn⟩ : Ms).err n b = 0 from if_pos hok]
          have hgood : mRead b p s ep d ∧ (mSet d).Ok n b := ⟨HRD.out, by rw [← HM.out]; exact hok⟩
          have t0 := cells_at hbx9 0 _ rfl
          have t1 := cells_at hbx9 1 _ rfl
          have t2 := cells_at hbx9 2 _ rfl
          have t3 := cells_at hbx9 3 _ rfl
          have t4 := cells_at hbx9 4 _ rfl
          simp only [List.getElem_toArray, List.getElem_cons_succ, List.getElem_cons_zero] at t0 t1 t2 t3 t4
          have hlt := heap_lt hbx9
          have hown9 := own_only H9.out.2.2.2 (Only.new hb9 fun _ => False) (fun _ _ => id)
          have hownE := own_only hown9 (only5 w9 (q + 1) (.int .u32 sq) (.slice ca xs.length ck) (.int .i64 sp) (.int .i64 dd) (.int .i64 dn)) (fun x hx e => by have := (hown9.lt x hx).1; have := H6.out.2.2.2.2.1; have := H6.out.2.2.2.2.2.1; have e' : x = q + 1 := e; omega)
          have hput := put5 hB8 (q + 1) (.int .u32 sq) (.slice ca xs.length ck) (.int .i64 sp) (.int .i64 dd) (.int .i64 dn) H6.out.2.2.2.2.2.2.1
          have hset := set5 (.int .u32 sq) (.slice ca xs.length ck) (.int .i64 sp) (.int .i64 dd) (.int .i64 dn) hR8
          have hend := HNO.out.2.2 ep HEP.out hgood _ _ (RV.own hownE) hput
          rw [← HM.out] at hend
          unfold Ms.cells at hend
          have HX := Lib.hid (⟨hend, hset⟩ : _ ∧ _)
          have r0 := cells_at hR8 0 _ rfl
          have r1 := cells_at hR8 1 _ rfl
          have r2 := cells_at hR8 2 _ rfl
          have r3 := cells_at hR8 3 _ rfl
          have r4 := cells_at hR8 4 _ rfl
          have f0 := froz_at hR8 0
          have f1 := froz_at hR8 1
          have f2 := froz_at hR8 2
          have f3 := froz_at hR8 3
          have f4 := froz_at hR8 4
          simp only [List.getElem_toArray, List.getElem_cons_succ, List.getElem_cons_zero] at r0 r1 r2 r3 r4
          have hlr := heap_lt hR8
          clear hend hset hput hownE hown9 hgood hok hbx9 hR8 hB8 hb9
          go_wp2_with fail
          refine bodyPost_ret (res_ct rfl rfl HX.out.2 Try.underlying37 rfl (by kernel_rfl)) rfl ?_
          exact HX.out.1
end Go.Proofs.Ytogejjbclimjjaa
