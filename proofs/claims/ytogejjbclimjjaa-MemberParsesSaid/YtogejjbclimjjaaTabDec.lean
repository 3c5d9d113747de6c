/- remap.Decode. -/
--only r2
import Derived.Test.YtogejjbclimjjaaTabDec1
namespace Go.Proofs.Ytogejjbclimjjaa
set_option linter.unusedVariables false
set_option linter.unusedSimpArgs false
open Go.RowKit

theorem set5 {w1 : World} {b t : Nat} {x0 x1 x2 x3 x4 : Value} (u0 u1 u2 u3 u4 : Value) (h : w1.heap[b]? = some (.cells #[x0, x1, x2, x3, x4] t (0, 0))) :
    (((((w1.setCell ⟨b, 0, none⟩ u0).setCell ⟨b, 1, none⟩ u1).setCell ⟨b, 2, none⟩ u2).setCell ⟨b, 3, none⟩ u3).setCell ⟨b, 4, none⟩ u4).heap[b]? = some (.cells #[u0, u1, u2, u3, u4] t (0, 0)) := by
  have h0 := set_at (o := 0) h u0
  simp only [List.setIfInBounds_toArray, List.set_cons_zero, List.set_cons_succ] at h0
  have h1 := set_at (o := 1) h0 u1
  simp only [List.setIfInBounds_toArray, List.set_cons_zero, List.set_cons_succ] at h1
  have h2 := set_at (o := 2) h1 u2
  simp only [List.setIfInBounds_toArray, List.set_cons_zero, List.set_cons_succ] at h2
  have h3 := set_at (o := 3) h2 u3
  simp only [List.setIfInBounds_toArray, List.set_cons_zero, List.set_cons_succ] at h3
  have h4 := set_at (o := 4) h3 u4
  simp only [List.setIfInBounds_toArray, List.set_cons_zero, List.set_cons_succ] at h4
  exact h4
theorem put5 {B : Nat} {w w1 : World} (hb : Below B w w1) (b : Nat) (u0 u1 u2 u3 u4 : Value) (hB : B ≤ b) : Below B w (((((w1.setCell ⟨b, 0, none⟩ u0).setCell ⟨b, 1, none⟩ u1).setCell ⟨b, 2, none⟩ u2).setCell ⟨b, 3, none⟩ u3).setCell ⟨b, 4, none⟩ u4) :=
  ((((hb.setCell (by exact hB) u0).setCell (by exact hB) u1).setCell (by exact hB) u2).setCell (by exact hB) u3).setCell (by exact hB) u4

theorem only5 (w1 : World) (b : Nat) (u0 u1 u2 u3 u4 : Value) : Only (fun x => x = b) w1 (((((w1.setCell ⟨b, 0, none⟩ u0).setCell ⟨b, 1, none⟩ u1).setCell ⟨b, 2, none⟩ u2).setCell ⟨b, 3, none⟩ u3).setCell ⟨b, 4, none⟩ u4) :=
  ((((Only.of_set w1 ⟨b, 0, none⟩ u0).set ⟨b, 1, none⟩ u1 fun _ => rfl).set ⟨b, 2, none⟩ u2 fun _ => rfl).set ⟨b, 3, none⟩ u3 fun _ => rfl).set ⟨b, 4, none⟩ u4 fun _ => rfl

/-- are bytes a table, of so many blocks? -/
def dGood (n : Nat) (l : List UInt8) : Prop := dEnough l ∧ dZero l = true ∧ (dTab l).Ok n
def Tb.zero : Tb := ⟨0, [], [], 0, 0⟩
open Classical in
noncomputable def dRes (n : Nat) (l : List UInt8) : Tb := if dGood n l then dTab l else .zero
open Classical in
noncomputable def dErr (n : Nat) (l : List UInt8) : Nat := if dGood n l then 0 else 62
theorem dTab_seq (l : List UInt8) : (dTab l).seq < 4294967296 := by
  have := leNum_lt (l.take 4)
  have h4 : (l.take 4).length ≤ 4 := by simp; omega
  have h2 : 256 ^ (l.take 4).length ≤ 256 ^ 4 := Nat.pow_le_pow_right (by omega) h4
  show leNum (l.take 4) < 4294967296
  omega
theorem dTab_len (l : List UInt8) : (dTab l).place.length ≤ 255 ∧ (dTab l).spare.length ≤ 255 := by
  have h1 := getN_lt l 4
  have h2 := getN_lt l (5 + dN l)
  unfold dTab
  simp only [intsOf_length, List.length_take]
  unfold dM
  unfold dN at *
  omega
/-- a slice that lies in no block below -/
def Fresh (B : Nat) (v : Value) : Prop := ∀ b o n c, v = .slice (some ⟨b, o, none⟩) n c → B ≤ b
theorem Fresh.nil (B n c : Nat) : Fresh B (.slice none n c) := fun b o n c h => by cases h
theorem Fresh.own {w : World} {base e size n : Nat} {v : Value} {xs : List Value} (h : w.ownsRow base e size v n xs) {B : Nat} (hB : B ≤ base) : Fresh B v := fun b o n c e => by
  subst e
  have := (h.lt b rfl).1
  omega
theorem RV.fresh {S : Nat → Prop} {B : Nat} {w w' : World} {v : Value} {xs : List Value} (h : RV w v xs) (hf : Fresh B v) (hO : Only S w w') (hS : ∀ b, S b → b < B) : RV w' v xs := h.away (fun _ b o n c e hs => by have := hf b o n c e; have := hS b hs; omega) hO
theorem TabAt.fresh {S : Nat → Prop} {B : Nat} {w w' : World} {T : Tb} {vp vs : Value} (h : TabAt w T vp vs) (h1 : Fresh B vp) (h2 : Fresh B vs) (hO : Only S w w') (hS : ∀ b, S b → b < B) : TabAt w' T vp vs := ⟨RV.fresh h.p h1 hO hS, RV.fresh h.s h2 hO hS, h.seq⟩
def DecEnds (n : Nat) (l : List UInt8) (w : World) (e : Ending) (w' : World) : Prop :=
  ∃ vp vs, e = .returned (.tuple #[tabV (dRes n l) vp vs, .int .i64 (dErr n l)]) ∧ (TabAt w' (dRes n l) vp vs ∧ Fresh w.heap.size vp ∧ Fresh w.heap.size vs) ∧ Below w.heap.size w w'

set_option maxRecDepth 100000 in
set_option maxHeartbeats 2000000 in
theorem decode_calls (vb : Value) (l : List UInt8) (c b p s : Nat) (w : World) (hv : RB w vb l) (hg : geoOk c b p s) :
    Calls Try.prog 30 #[vb, geoV c b p s] w (DecEnds b l w) := by
  have hno : ¬ dGood b l → ∀ w', Below w.heap.size w w' → DecEnds b l w (.returned (.tuple #[.agg #[.int .u32 0, .slice none 0 0, .slice none 0 0, .int .i64 0, .int .i64 0], .int .i64 62])) w' := fun h w' hb => ⟨.slice none 0 0, .slice none 0 0, by unfold dRes dErr; rw [if_neg h, if_neg h]; rfl, by unfold dRes; rw [if_neg h]; exact ⟨⟨RI.nil _, RI.nil _, by decide⟩, Fresh.nil _ _ _, Fresh.nil _ _ _⟩, hb⟩
  have hyes : dGood b l → ∀ vp vs w', RI w' vp (dTab l).place → RI w' vs (dTab l).spare → Below w.heap.size w w' → Fresh w.heap.size vp → Fresh w.heap.size vs → DecEnds b l w (.returned (.tuple #[.agg ((dTab l).cells vp vs), .int .i64 0])) w' := fun h vp vs w' h1 h2 hb f1 f2 => ⟨vp, vs, by unfold dRes dErr; rw [if_pos h, if_pos h]; rfl, by unfold dRes; rw [if_pos h]; exact ⟨⟨h1, h2, dTab_seq l⟩, f1, f2⟩, hb⟩
  generalize DecEnds b l w = Post at hno hyes ⊢
  have HNO := Lib.hid hno
  have HYES := Lib.hid hyes
  clear hno hyes
  obtain ⟨ab, cb, rfl, hl2, hm2⟩ := hv.form
  have hcf : ∀ (args : Array Value) (w : World), (callFunc 64 args).run Try.prog w = .ok (.enter 64 args) w := fun args w => by
    first | rfl | kernel_rfl
  go_enter Try.func30, Try.ntmps30
  go_wp2_with fail
  obtain ⟨w5, hw5⟩ : ∃ w5, w5 = (((w.alloc (.cells #[.int .i64 c, .int .i64 b, .int .i64 p, .int .i64 s] 28)).alloc (.cells #[.int .u32 0, .slice none 0 0, .slice none 0 0, .int .i64 0, .int .i64 0] 57)).alloc (.cells #[.int .u32 0, .slice none 0 0, .slice none 0 0, .int .i64 0, .int .i64 0] 57)).alloc (.cells #[.bool false] 4) := ⟨_, rfl⟩
  have hb5 : Below w.heap.size w w5 := by rw [hw5]; exact ((((Below.refl w.heap.size w).alloc (Nat.le_refl _) _).alloc (by simp) _).alloc (by simp; omega) _).alloc (by simp; omega) _
  have g0 : w5.heap[w.heap.size]? = some (.cells #[.int .i64 c, .int .i64 b, .int .i64 p, .int .i64 s] 28 (0, 0)) := by rw [hw5]; exact heap_old _ (heap_old _ (heap_old _ (heap_is rfl)))
  have g1 : w5.heap[w.heap.size + 1]? = some (.cells #[.int .u32 0, .slice none 0 0, .slice none 0 0, .int .i64 0, .int .i64 0] 57 (0, 0)) := by rw [hw5]; exact heap_old _ (heap_old _ (heap_is (by simp)))
  have g2 : w5.heap[w.heap.size + 1 + 1]? = some (.cells #[.int .u32 0, .slice none 0 0, .slice none 0 0, .int .i64 0, .int .i64 0] 57 (0, 0)) := by rw [hw5]; exact heap_old _ (heap_is (by simp))
  have g3 : w5.heap[w.heap.size + 1 + 1 + 1]? = some (.cells #[.bool false] 4 (0, 0)) := by rw [hw5]; exact heap_is (by simp)
  have hs5 : w5.heap.size = w.heap.size + 4 := by rw [hw5]; simp
  rw [← hw5]
  clear hw5
  have hv5 := hv.below hb5
  refine (read_calls 64 _ _ l w5 (fun x => x = w.heap.size + 1 + 1 ∨ x = w.heap.size + 1 + 1 + 1)
    (Dec1 (w5.heap.size + 1) (w.heap.size + 1 + 1) (w.heap.size + 1 + 1 + 1) l) hv5 (by omega) hcf ?_).mono ?_
  · intro w6 r hb6 hr hRd _
    refine (dec1_calls r _ _ _ l w6 hRd (heap_keep hb6 g2) (heap_keep hb6 g3) (by omega) (by omega) (by omega)).mono ?_
    rintro e w7 ⟨b, h1, h2, h3⟩
    have := heap_lt hRd.cell
    exact ⟨b, h1, h2.mono (by omega), h3⟩
  rintro e w8 ⟨bb, rfl, w7, ⟨h1, h2⟩, h3, h4⟩
  have q0 := h3.at (h4.at g0 (by show ¬ (_ ∨ _); omega)) (by show ¬ _ = w5.heap.size; omega)
  have q1 := h3.at (h4.at g1 (by show ¬ (_ ∨ _); omega)) (by show ¬ _ = w5.heap.size; omega)
  have hO := h4.trans h3 (fun b hb e => by omega)
  have hbz := hb5.trans (hO.below (B := w.heap.size) (by omega) fun b hb h => by rcases h with h | h <;> omega)
  have c0 := cells_at q1 0 _ rfl
  have c1 := cells_at q1 1 _ rfl
  have c2 := cells_at q1 2 _ rfl
  have c3 := cells_at q1 3 _ rfl
  have c4 := cells_at q1 4 _ rfl
  have f0 := froz_at q1 0
  have f1 := froz_at q1 1
  have f2 := froz_at q1 2
  have f3 := froz_at q1 3
  have f4 := froz_at q1 4
  simp only [List.getElem_toArray, List.getElem_cons_succ, List.getElem_cons_zero] at c0 c1 c2 c3 c4
  cases bb with
  | false =>
    have hbad : ¬ dGood b l := fun h => h2 rfl h.1
    have hend := HNO.out hbad _ (put5 hbz (w.heap.size + 1) (.int .u32 0) (.slice none 0 0) (.slice none 0 0) (.int .i64 0) (.int .i64 0) (by omega))
    have hR := set5 (.int .u32 0) (.slice none 0 0) (.slice none 0 0) (.int .i64 0) (.int .i64 0) q1
    have HX := Lib.hid (⟨hend, hR⟩ : _ ∧ _)
    clear h1 h2 h3 h4 hO q0 q1 hbz hbad hend hR g0 g1 g2 g3 hv5 hcf hb5
    go_wp2_with fail
    refine bodyPost_ret (res_ct rfl rfl HX.out.2 Try.underlying57 rfl (by kernel_rfl)) rfl HX.out.1
  | true =>
    obtain ⟨hen, vp, vs, hbx, hzb, hp, hs⟩ := h1 rfl
    have q2 := h3.at hbx (by show ¬ _ = w5.heap.size; omega)
    have q3 := h3.at hzb (by show ¬ _ = w5.heap.size; omega)
    have hpo8 := own_only hp h3 (fun x hx e => by have := (hp.lt x hx).1; omega)
    have hso8 := own_only hs h3 (fun x hx e => by have := (hs.lt x hx).1; omega)
    have hp8 : RI w8 vp (dTab l).place := RV.own hpo8
    have hs8 : RI w8 vs (dTab l).spare := RV.own hso8
    have HOWN := Lib.hid (⟨hpo8, hso8⟩ : _ ∧ _)
    have HS5 := Lib.hid hs5
    clear hpo8 hso8
    have z0 := cells_at q3 0 _ rfl
    simp only [List.getElem_toArray, List.getElem_cons_zero] at z0
    have hlq := heap_lt q3
    have H8 := Lib.hid (⟨hbz, q0, q1, q2, hp8, hs8⟩ : _ ∧ _ ∧ _ ∧ _ ∧ _ ∧ _)
    have HEN := Lib.hid hen
    by_cases hz : dZero l = true
    rotate_left
    · have hz' : dZero l = false := by cases h : dZero l <;> simp_all
      have hbad : ¬ dGood b l := fun h => hz h.2.1
      have hend := HNO.out hbad _ (put5 hbz (w.heap.size + 1) (.int .u32 0) (.slice none 0 0) (.slice none 0 0) (.int .i64 0) (.int .i64 0) (by omega))
      have hR := set5 (.int .u32 0) (.slice none 0 0) (.slice none 0 0) (.int .i64 0) (.int .i64 0) q1
      have HX := Lib.hid (⟨hend, hR⟩ : _ ∧ _)
      rw [hz'] at z0
      clear h1 h2 h3 h4 hO q0 q1 q2 q3 hbz hbad hend hR g0 g1 g2 g3 hv5 hcf hb5 hen hbx hzb hp hs hp8 hs8 hz hz' H8
      go_wp2_with fail
      refine bodyPost_ret (res_ct rfl rfl HX.out.2 Try.underlying57 rfl (by kernel_rfl)) rfl HX.out.1
    · rw [hz] at z0
      have HZ := Lib.hid hz
      obtain ⟨T, hT⟩ : ∃ T, T = dTab l := ⟨_, rfl⟩
      have HT := Lib.hid hT
      rw [← hT] at q2 hp8 hs8
      have htab : TabAt w8 T vp vs := ⟨hp8, hs8, by rw [hT]; exact dTab_seq l⟩
      have htl := dTab_len l
      rw [← hT] at htl
      have hch := tcheck_calls c b p s T vp vs w8 htab hg (by omega) (by omega)
      obtain ⟨ap, cp, rfl, -, -⟩ := hp8.form
      obtain ⟨ax, cx, rfl, -, -⟩ := hs8.form
      unfold tabV at hch
      unfold Tb.cells at hch q2
      have d0 := cells_at q2 0 _ rfl
      have d1 := cells_at q2 1 _ rfl
      have d2 := cells_at q2 2 _ rfl
      have d3 := cells_at q2 3 _ rfl
      have d4 := cells_at q2 4 _ rfl
      have k0 := cells_at q0 0 _ rfl
      have k1 := cells_at q0 1 _ rfl
      have k2 := cells_at q0 2 _ rfl
      have k3 := cells_at q0 3 _ rfl
      simp only [List.getElem_toArray, List.getElem_cons_succ, List.getElem_cons_zero] at d0 d1 d2 d3 d4 k0 k1 k2 k3
      have HCH := Lib.hid hch
      have H9 := Lib.hid (⟨hbz, q1, q2, htab⟩ : _ ∧ _ ∧ _ ∧ _)
      clear h1 h2 h3 h4 hO q0 q1 q2 q3 hbz g0 g1 g2 g3 hv5 hcf hb5 hen hbx hzb hp hs hp8 hs8 hz hT htab htl hch c0 c1 c2 c3 c4 f0 f1 f2 f3 f4
      go_wp2_with fail
      refine HCH.out.mono ?_
      rintro e w9 ⟨rfl, hb9⟩
      obtain ⟨hbz, q1, q2, htab⟩ := H9.out
      have hbz9 := hbz.trans (hb9.mono hbz.size)
      have r1 := heap_keep hb9 q1
      have r2 := heap_keep hb9 q2
      have htab9 := htab.below hb9
      have c0 := cells_at r1 0 _ rfl
      have c1 := cells_at r1 1 _ rfl
      have c2 := cells_at r1 2 _ rfl
      have c3 := cells_at r1 3 _ rfl
      have c4 := cells_at r1 4 _ rfl
      have f0 := froz_at r1 0
      have f1 := froz_at r1 1
      have f2 := froz_at r1 2
      have f3 := froz_at r1 3
      have f4 := froz_at r1 4
      simp only [List.getElem_toArray, List.getElem_cons_succ, List.getElem_cons_zero] at c0 c1 c2 c3 c4
      clear d0 d1 d2 d3 d4 k0 k1 k2 k3 z0 hlq HCH
      have hlq := heap_lt r1
      by_cases hok : T.Ok b
      rotate_left
      · have he : T.err b = 62 := by unfold Tb.err; rw [if_neg hok]
        rw [he]
        have hbad : ¬ dGood b l := fun h => hok (by rw [HT.out]; exact h.2.2)
        have hend := HNO.out hbad _ (put5 hbz9 (w.heap.size + 1) (.int .u32 0) (.slice none 0 0) (.slice none 0 0) (.int .i64 0) (.int .i64 0) (by omega))
        have hR := set5 (.int .u32 0) (.slice none 0 0) (.slice none 0 0) (.int .i64 0) (.int .i64 0) r1
        have HX := Lib.hid (⟨hend, hR⟩ : _ ∧ _)
        clear r1 r2 hbz9 hbad hend hR hok he htab htab9 q1 q2 hbz hb9 H8 H9
        go_wp2_with fail
        refine bodyPost_ret (res_ct rfl rfl HX.out.2 Try.underlying57 rfl (by kernel_rfl)) rfl HX.out.1
      · have he : T.err b = 0 := by unfold Tb.err; rw [if_pos hok]
        rw [he, show ((0 : Nat) : Int) = 0 from rfl]
        have hgood : dGood b l := ⟨HEN.out, HZ.out, by rw [← HT.out]; exact hok⟩
        have hB := put5 hbz9 (w.heap.size + 1) (.int .u32 T.seq) (.slice ap T.place.length cp) (.slice ax T.spare.length cx) (.int .i64 T.t0) (.int .i64 T.t1) (by omega)
        have hon : Only (fun x => x = w.heap.size + 1) w9 (((((w9.setCell ⟨w.heap.size + 1, 0, none⟩ (.int .u32 T.seq)).setCell ⟨w.heap.size + 1, 1, none⟩ (.slice ap T.place.length cp)).setCell ⟨w.heap.size + 1, 2, none⟩ (.slice ax T.spare.length cx)).setCell ⟨w.heap.size + 1, 3, none⟩ (.int .i64 T.t0)).setCell ⟨w.heap.size + 1, 4, none⟩ (.int .i64 T.t1)) :=
          ((((Only.of_set w9 ⟨w.heap.size + 1, 0, none⟩ (.int .u32 T.seq)).set ⟨w.heap.size + 1, 1, none⟩ (.slice ap T.place.length cp) fun _ => rfl).set ⟨w.heap.size + 1, 2, none⟩ (.slice ax T.spare.length cx) fun _ => rfl).set ⟨w.heap.size + 1, 3, none⟩ (.int .i64 T.t0) fun _ => rfl).set ⟨w.heap.size + 1, 4, none⟩ (.int .i64 T.t1) fun _ => rfl
        have hlw : w.heap.size + 1 < w5.heap.size + 1 := by rw [HS5.out]; omega
        have hfin := HYES.out hgood (.slice ap T.place.length cp) (.slice ax T.spare.length cx) _
          (RV.own (own_only (own_only HOWN.out.1 (Only.new hb9 fun _ => False) (fun _ _ => id)) hon (fun x hx e => by have := (HOWN.out.1.lt x hx).1; omega)))
          (RV.own (own_only (own_only HOWN.out.2 (Only.new hb9 fun _ => False) (fun _ _ => id)) hon (fun x hx e => by have := (HOWN.out.2.lt x hx).1; omega))) hB (Fresh.own HOWN.out.1 (by omega)) (Fresh.own HOWN.out.2 (by omega))
        have hR := set5 (.int .u32 T.seq) (.slice ap T.place.length cp) (.slice ax T.spare.length cx) (.int .i64 T.t0) (.int .i64 T.t1) r1
        have d0 := cells_at r2 0 _ rfl
        have d1 := cells_at r2 1 _ rfl
        have d2 := cells_at r2 2 _ rfl
        have d3 := cells_at r2 3 _ rfl
        have d4 := cells_at r2 4 _ rfl
        simp only [List.getElem_toArray, List.getElem_cons_succ, List.getElem_cons_zero] at d0 d1 d2 d3 d4
        have hlt := heap_lt r2
        rw [← HT.out] at hfin
        have HX := Lib.hid (⟨hfin, hR⟩ : _ ∧ _)
        clear r1 r2 hbz9 hR hok he htab htab9 q1 q2 hbz hb9 H8 H9 hB hon hfin hgood HOWN
        go_wp2_with fail
        refine bodyPost_ret (res_ct rfl rfl HX.out.2 Try.underlying57 rfl (by kernel_rfl)) rfl HX.out.1
end Go.Proofs.Ytogejjbclimjjaa
