/- Layer 6's answer: Decode. -/
--only r2
import Derived.Test.YtogejjbclimjjaaRDec
namespace Go.Proofs.Ytogejjbclimjjaa
set_option linter.unusedVariables false
set_option linter.unusedSimpArgs false
open Go.RowKit

structure RDI (w : World) (q : Nat) (s x y z : Value) (wr : World) : Prop where
  bel : Below w.heap.size w wr
  res : wr.heap[q]? = some (.cells #[.int .i64 0, .slice none 0 0, .slice none 0 0, .slice none 0 0] 60 (0, 0))
  tab : wr.heap[q + 1]? = some (.cells #[s, x, y, z] 60 (0, 0))
  lo : w.heap.size ≤ q
theorem RDI.below {w : World} {q : Nat} {s x y z : Value} {wr wn : World} (h : RDI w q s x y z wr) (hb : Below wr.heap.size wr wn) : RDI w q s x y z wn :=
  ⟨h.bel.trans (hb.mono h.bel.size), heap_keep hb h.res, heap_keep hb h.tab, h.lo⟩
theorem RDI.s1 {w : World} {q : Nat} {s x y z : Value} {wr : World} (h : RDI w q s x y z wr) (u : Value) : RDI w q s u y z (wr.setCell ⟨q + 1, 1, none⟩ u) := by
  have := set_at (o := 1) h.tab u
  simp only [List.setIfInBounds_toArray, List.set_cons_zero, List.set_cons_succ] at this
  exact ⟨h.bel.setCell (Nat.le_succ_of_le h.lo) u, set_other (a := ⟨q + 1, 1, none⟩) u h.res (by show q ≠ q + 1; omega), this, h.lo⟩
theorem RDI.s2 {w : World} {q : Nat} {s x y z : Value} {wr : World} (h : RDI w q s x y z wr) (u : Value) : RDI w q s x u z (wr.setCell ⟨q + 1, 2, none⟩ u) := by
  have := set_at (o := 2) h.tab u
  simp only [List.setIfInBounds_toArray, List.set_cons_zero, List.set_cons_succ] at this
  exact ⟨h.bel.setCell (Nat.le_succ_of_le h.lo) u, set_other (a := ⟨q + 1, 2, none⟩) u h.res (by show q ≠ q + 1; omega), this, h.lo⟩
theorem RDI.s3 {w : World} {q : Nat} {s x y z : Value} {wr : World} (h : RDI w q s x y z wr) (u : Value) : RDI w q s x y u (wr.setCell ⟨q + 1, 3, none⟩ u) := by
  have := set_at (o := 3) h.tab u
  simp only [List.setIfInBounds_toArray, List.set_cons_zero, List.set_cons_succ] at this
  exact ⟨h.bel.setCell (Nat.le_succ_of_le h.lo) u, set_other (a := ⟨q + 1, 3, none⟩) u h.res (by show q ≠ q + 1; omega), this, h.lo⟩
/-- an own list stays, where a cell of the table is set -/
theorem RDI.own {wr : World} {q B : Nat} (hB : q + 1 < B) {v : Value} {n : Nat} {xs : List Value} (ho : wr.ownsRow B 3 1 v n xs) (o : Nat) (u : Value) : (wr.setCell ⟨q + 1, o, none⟩ u).ownsRow B 3 1 v n xs :=
  own_only ho (Only.of_set wr ⟨q + 1, o, none⟩ u) fun b hb e => by have := (ho.lt b hb).1; have e' : b = q + 1 := e; omega

def RTb.none : RTb := ⟨0, [], [], []⟩
open Classical in
noncomputable def rRes (n : Nat) (l : List UInt8) : RTb := if dGood n l then (dTab l).r else .none
def RDecEnds (n : Nat) (l : List UInt8) (w : World) (e : Ending) (w' : World) : Prop :=
  ∃ x, e = .returned (.tuple #[x, .int .i64 (dErr n l)]) ∧ RTabAt w' (rRes n l) x ∧ Below w.heap.size w w'

set_option maxRecDepth 100000 in
set_option maxHeartbeats 1000000 in
theorem rdecode_calls (v : Value) (l : List UInt8) (n : Nat) (w : World) (h : RB w v l) (hl : l.length ≤ 1000) (hn : n ≤ 100000) :
    Calls Try.prog 35 #[v, .int .i64 n] w (RDecEnds n l w) := by
  have hno : ¬ dGood n l → ∀ w', Below w.heap.size w w' → RDecEnds n l w (.returned (.tuple #[.agg #[.int .i64 0, .slice none 0 0, .slice none 0 0, .slice none 0 0], .int .i64 62])) w' := fun h w' hb =>
    ⟨_, by unfold dErr; rw [if_neg h]; rfl, by unfold rRes; rw [if_neg h]; exact ⟨_, _, _, rfl, RI.nil _, RI.nil _, RI.nil _⟩, hb⟩
  have hyes : dGood n l → ∀ x y z w', RI w' x (dTab l).place → RI w' y (dTab l).spare → RI w' z (dTab l).tabs → Below w.heap.size w w' → RDecEnds n l w (.returned (.tuple #[.agg #[.int .i64 (dTab l).seq, x, y, z], .int .i64 0])) w' := fun h x y z w' h1 h2 h3 hb =>
    ⟨_, by unfold dErr; rw [if_pos h]; rfl, by unfold rRes; rw [if_pos h]; exact ⟨_, _, _, rfl, h1, h2, h3⟩, hb⟩
  generalize RDecEnds n l w = Post at hno hyes ⊢
  obtain ⟨i, hi, hz0, hz1, hz2⟩ := info_parts infoU8
  obtain ⟨a, c, rfl, hlc, hcm⟩ := h.form
  unfold maxLen at hcm
  obtain ⟨q, hq⟩ : ∃ q, q = w.heap.size := ⟨_, rfl⟩
  obtain ⟨w1, hw1⟩ : ∃ w1, w1 = w.alloc (.cells #[.int .i64 0, .slice none 0 0, .slice none 0 0, .slice none 0 0] 60) := ⟨_, rfl⟩
  have hb1 : Below w.heap.size w w1 := by rw [hw1]; exact (Below.refl _ _).alloc (Nat.le_refl _) _
  have hQ1 : w1.heap[q]? = some (.cells #[.int .i64 0, .slice none 0 0, .slice none 0 0, .slice none 0 0] 60 (0, 0)) := by rw [hw1]; exact heap_is hq
  have hs1 : w1.heap.size = q + 1 := by rw [hw1, hq]; simp
  have hend : ¬ dGood n l → ∀ wr, Below w.heap.size w wr → wr.heap[q]? = some (.cells #[.int .i64 0, .slice none 0 0, .slice none 0 0, .slice none 0 0] 60 (0, 0)) → Post (.returned (.tuple #[.agg #[.int .i64 0, .slice none 0 0, .slice none 0 0, .slice none 0 0], .int .i64 62])) ((((wr.setCell ⟨q, 0, none⟩ (.int .i64 0)).setCell ⟨q, 1, none⟩ (.slice none 0 0)).setCell ⟨q, 2, none⟩ (.slice none 0 0)).setCell ⟨q, 3, none⟩ (.slice none 0 0)) :=
    fun hg wr hb hr => hno hg _ (put4 hb q _ _ _ _ (by omega))
  have HW1 := Lib.hid hw1
  have HN := Lib.hid (⟨hend, hyes⟩ : _ ∧ _)
  have hq0 := cells_at hQ1 0 _ rfl
  have hq1 := cells_at hQ1 1 _ rfl
  have hq2 := cells_at hQ1 2 _ rfl
  have hq3 := cells_at hQ1 3 _ rfl
  simp only [List.getElem_toArray, List.getElem_cons_succ, List.getElem_cons_zero] at hq0 hq1 hq2 hq3
  have f0 := froz_at hQ1 0
  have f1 := froz_at hQ1 1
  have f2 := froz_at hQ1 2
  have f3 := froz_at hQ1 3
  have hlq := heap_lt hQ1
  have H1 := Lib.hid (⟨hb1, hQ1, hs1, h.below hb1, hq⟩ : _ ∧ _ ∧ _ ∧ _ ∧ _)
  have HH := Lib.hid h
  clear hno hyes hend hw1 hb1 hQ1 hs1 h
  go_enter Try.func35, Try.ntmps35
  go_upto_region 1 with (fail)
  rw [← hq, ← HW1.out]
  clear HW1 hq
  by_cases h4 : l.length < 4
  · have e1 : decide ((l.length : Int) < 4) = true := by simp; omega
    have hng : ¬ dGood n l := fun hg => by have := hg.1; unfold dEnough dEnd at this; omega
    have HE := Lib.hid hng
    clear hng h4
    go_wp2_with fail
    refine bodyPost_ret (res_ct rfl rfl (set4 H1.out.2.1) Try.underlying60 rfl (by kernel_rfl)) rfl (HN.out.1 HE.out _ H1.out.1 H1.out.2.1)
  have e1 : decide ((l.length : Int) < 4) = false := by simp; omega
  have H4 := Lib.hid h4
  clear h4
  have hnum := num_calls _ l 0 4 w1 H1.out.2.2.2.1 (by have := H4.out; omega) (by omega)
  rw [show ((0 : Nat) : Int) = 0 from rfl, show ((4 : Nat) : Int) = 4 from rfl, List.drop_zero] at hnum
  obtain ⟨S, hS⟩ : ∃ S, S = leNum (l.take 4) := ⟨_, rfl⟩
  have hS32 : S < 4294967296 := by rw [hS]; exact dTab_seq l
  rw [← hS] at hnum
  have HS := Lib.hid (⟨hnum, hS⟩ : _ ∧ _)
  clear hnum hS
  go_upto_region 3 with (fail)
  clear e1
  have eS : IntKind.i64.wrap (S : Int) = (S : Int) := IntWalk.i64_in _ (by omega)
  go_wp2_with fail
  refine HS.out.1.mono ?_
  rintro e w' ⟨rfl, rfl⟩
  obtain ⟨w2, hw2⟩ : ∃ w2, w2 = w1.alloc (.cells #[.int .i64 S, .slice none 0 0, .slice none 0 0, .slice none 0 0] 60) := ⟨_, rfl⟩
  have hb12 : Below w1.heap.size w1 w2 := by rw [hw2]; exact (Below.refl _ _).alloc (Nat.le_refl _) _
  have hD2 : RDI w q (.int .i64 S) (.slice none 0 0) (.slice none 0 0) (.slice none 0 0) w2 := ⟨H1.out.1.trans (hb12.mono H1.out.1.size), heap_keep hb12 H1.out.2.1, by rw [hw2]; exact heap_is H1.out.2.2.1.symm, Nat.le_of_eq H1.out.2.2.2.2.symm⟩
  have hv2 := H1.out.2.2.2.1.below hb12
  have H2 := Lib.hid (⟨hD2, hv2⟩ : _ ∧ _)
  have HW2 := Lib.hid hw2
  clear hb12 hD2 hv2 hw2 hq0 hq1 hq2 hq3 f0 f1 f2 f3 hlq
  have hs1 := H1.out.2.2.1
  go_upto_region 5 with (fail)
  rw [← HW2.out]
  clear HW2 hs1
  have HV := Lib.hid HH.out
  have hD2 := H2.out.1
  by_cases c1 : 4 < l.length ∧ 5 + getN l 4 ≤ l.length
  rotate_left
  · have hng : ¬ dGood n l := fun hg => by have := hg.1; unfold dEnough dEnd dN at this; omega
    have HG := Lib.hid hng
    have hc : ((4 : Int) < 0 ∨ (l.length : Int) ≤ 4 ∨ ∃ k : Nat, (4 : Int) = k ∧ k < l.length ∧ l.length < k + 1 + getN l k) := by
      by_cases h5 : l.length ≤ 4
      · exact .inr (.inl (by omega))
      · exact .inr (.inr ⟨4, rfl, by omega, by omega⟩)
    have ht := rtake_no _ l 4 w2 (HV.out.below hD2.bel) hl ⟨by omega, by omega⟩ hc
    have HT := Lib.hid ht
    clear ht hc c1 hng
    have t0 := cells_at hD2.tab 0 _ rfl
    have t1 := cells_at hD2.tab 1 _ rfl
    have t2 := cells_at hD2.tab 2 _ rfl
    have t3 := cells_at hD2.tab 3 _ rfl
    simp only [List.getElem_toArray, List.getElem_cons_succ, List.getElem_cons_zero] at t0 t1 t2 t3
    have ft0 := froz_at hD2.tab 0
    have ft1 := froz_at hD2.tab 1
    have ft2 := froz_at hD2.tab 2
    have ft3 := froz_at hD2.tab 3
    have hlt := heap_lt hD2.tab
    go_wp2_with fail
    refine HT.out.mono ?_
    rintro e w' ⟨rfl, rfl⟩
    obtain ⟨w3, hw3⟩ : ∃ w3, w3 = w2.setCell ⟨q + 1, 1, none⟩ (.slice none 0 0) := ⟨_, rfl⟩
    have hD3 : RDI w q (.int .i64 S) (.slice none 0 0) (.slice none 0 0) (.slice none 0 0) w3 := by rw [hw3]; exact hD2.s1 _
    have HW3 := Lib.hid hw3
    clear hw3
    go_upto_region 6 with (fail)
    rw [← HW3.out]
    clear HW3 HT hD2
    clear t0 t1 t2 t3 ft0 ft1 ft2 ft3 hlt
    have ht := rtake_no _ l (-1) w3 (HV.out.below hD3.bel) hl ⟨by omega, by omega⟩ (.inl (by omega))
    have HT := Lib.hid ht
    clear ht
    have t0 := cells_at hD3.tab 0 _ rfl
    have t1 := cells_at hD3.tab 1 _ rfl
    have t2 := cells_at hD3.tab 2 _ rfl
    have t3 := cells_at hD3.tab 3 _ rfl
    simp only [List.getElem_toArray, List.getElem_cons_succ, List.getElem_cons_zero] at t0 t1 t2 t3
    have ft0 := froz_at hD3.tab 0
    have ft1 := froz_at hD3.tab 1
    have ft2 := froz_at hD3.tab 2
    have ft3 := froz_at hD3.tab 3
    have hlt := heap_lt hD3.tab
    go_wp2_with fail
    refine HT.out.mono ?_
    rintro e w' ⟨rfl, rfl⟩
    obtain ⟨w4, hw4⟩ : ∃ w4, w4 = w3.setCell ⟨q + 1, 2, none⟩ (.slice none 0 0) := ⟨_, rfl⟩
    have hD4 : RDI w q (.int .i64 S) (.slice none 0 0) (.slice none 0 0) (.slice none 0 0) w4 := by rw [hw4]; exact hD3.s2 _
    have HW4 := Lib.hid hw4
    clear hw4
    go_upto_region 7 with (fail)
    rw [← HW4.out]
    clear HW4 HT hD3
    clear t0 t1 t2 t3 ft0 ft1 ft2 ft3 hlt
    have HD := Lib.hid hD4
    have r0 := cells_at HD.out.res 0 _ rfl
    have r1 := cells_at HD.out.res 1 _ rfl
    have r2 := cells_at HD.out.res 2 _ rfl
    have r3 := cells_at HD.out.res 3 _ rfl
    simp only [List.getElem_toArray, List.getElem_cons_succ, List.getElem_cons_zero] at r0 r1 r2 r3
    have fr0 := froz_at HD.out.res 0
    have fr1 := froz_at HD.out.res 1
    have fr2 := froz_at HD.out.res 2
    have fr3 := froz_at HD.out.res 3
    have hlr := heap_lt HD.out.res
    clear hD4
    go_wp2_with fail
    refine bodyPost_ret (res_ct rfl rfl (set4 HD.out.res) Try.underlying60 rfl (by kernel_rfl)) rfl (HN.out.1 HG.out _ HD.out.bel HD.out.res)
  obtain ⟨N4, hN4⟩ : ∃ N4, N4 = getN l 4 := ⟨_, rfl⟩
  obtain ⟨p, hp⟩ : ∃ p, p = 4 + 1 + getN l 4 := ⟨_, rfl⟩
  have ht := rtake_yes _ l 4 w2 (HV.out.below hD2.bel) hl c1.1 c1.2
  rw [← hp, ← hN4] at ht
  have hpl : p ≤ l.length := by omega
  have hp5 : p = 5 + dN l := by unfold dN; omega
  have hN8 : N4 = dN l := by unfold dN; exact hN4
  have HP := Lib.hid (⟨hp5, hN8⟩ : _ ∧ _)
  have HT := Lib.hid ht
  clear ht hp hN4 c1 hp5 hN8
  have t0 := cells_at hD2.tab 0 _ rfl
  have t1 := cells_at hD2.tab 1 _ rfl
  have t2 := cells_at hD2.tab 2 _ rfl
  have t3 := cells_at hD2.tab 3 _ rfl
  simp only [List.getElem_toArray, List.getElem_cons_succ, List.getElem_cons_zero] at t0 t1 t2 t3
  have ft0 := froz_at hD2.tab 0
  have ft1 := froz_at hD2.tab 1
  have ft2 := froz_at hD2.tab 2
  have ft3 := froz_at hD2.tab 3
  have hlt := heap_lt hD2.tab
  go_wp2_with fail
  refine HT.out.mono ?_
  rintro e w3 ⟨x, rfl, hown, hb3⟩
  have hlt3 := heap_lt hD2.tab
  have hD3 := hD2.below hb3
  obtain ⟨ax, kx, rfl⟩ := own_slice hown
  obtain ⟨w4, hw4⟩ : ∃ w4, w4 = w3.setCell ⟨q + 1, 1, none⟩ (.slice ax N4 kx) := ⟨_, rfl⟩
  have hD4 : RDI w q (.int .i64 S) (.slice ax N4 kx) (.slice none 0 0) (.slice none 0 0) w4 := by rw [hw4]; exact hD3.s1 _
  have hx4 : w4.ownsRow w2.heap.size 3 1 (.slice ax N4 kx) N4 ((intsOf ((l.drop 5).take N4)).map i64v) := by rw [hw4]; exact RDI.own hlt3 hown 1 _
  have HX4 := Lib.hid (⟨hx4, hlt3⟩ : _ ∧ _)
  have HW4 := Lib.hid hw4
  clear t0 t1 t2 t3 ft0 ft1 ft2 ft3 hlt
  have t0 := cells_at hD3.tab 0 _ rfl
  have t1 := cells_at hD3.tab 1 _ rfl
  have t2 := cells_at hD3.tab 2 _ rfl
  have t3 := cells_at hD3.tab 3 _ rfl
  simp only [List.getElem_toArray, List.getElem_cons_succ, List.getElem_cons_zero] at t0 t1 t2 t3
  have ft0 := froz_at hD3.tab 0
  have ft1 := froz_at hD3.tab 1
  have ft2 := froz_at hD3.tab 2
  have ft3 := froz_at hD3.tab 3
  have hlt := heap_lt hD3.tab
  clear hw4 hx4 hlt3 hown hb3 hD2 H2 HT
  go_upto_region 6 with (fail)
  rw [← HW4.out]
  clear HW4 hD3
  clear t0 t1 t2 t3 ft0 ft1 ft2 ft3 hlt
  by_cases c2 : p < l.length ∧ p + 1 + getN l p ≤ l.length
  rotate_left
  · have hng : ¬ dGood n l := fun hg => by have := hg.1; unfold dEnough dEnd dM at this; rw [← HP.out.1] at this; have := HP.out.1; omega
    have HG := Lib.hid hng
    have hc : ((p : Int) < 0 ∨ (l.length : Int) ≤ p ∨ ∃ k : Nat, (p : Int) = k ∧ k < l.length ∧ l.length < k + 1 + getN l k) := by
      by_cases h5 : l.length ≤ p
      · exact .inr (.inl (by omega))
      · exact .inr (.inr ⟨p, rfl, by omega, by omega⟩)
    have ht := rtake_no _ l p w4 (HV.out.below hD4.bel) hl ⟨by omega, by omega⟩ hc
    have HT := Lib.hid ht
    clear ht hc c2 hng
    have t0 := cells_at hD4.tab 0 _ rfl
    have t1 := cells_at hD4.tab 1 _ rfl
    have t2 := cells_at hD4.tab 2 _ rfl
    have t3 := cells_at hD4.tab 3 _ rfl
    simp only [List.getElem_toArray, List.getElem_cons_succ, List.getElem_cons_zero] at t0 t1 t2 t3
    have ft0 := froz_at hD4.tab 0
    have ft1 := froz_at hD4.tab 1
    have ft2 := froz_at hD4.tab 2
    have ft3 := froz_at hD4.tab 3
    have hlt := heap_lt hD4.tab
    go_wp2_with fail
    refine HT.out.mono ?_
    rintro e w' ⟨rfl, rfl⟩
    obtain ⟨w5, hw5⟩ : ∃ w5, w5 = w4.setCell ⟨q + 1, 2, none⟩ (.slice none 0 0) := ⟨_, rfl⟩
    have hD5 : RDI w q (.int .i64 S) (.slice ax N4 kx) (.slice none 0 0) (.slice none 0 0) w5 := by rw [hw5]; exact hD4.s2 _
    have HW5 := Lib.hid hw5
    clear hw5
    go_upto_region 7 with (fail)
    rw [← HW5.out]
    clear HW5 HT hD4
    clear t0 t1 t2 t3 ft0 ft1 ft2 ft3 hlt
    have HD := Lib.hid hD5
    have r0 := cells_at HD.out.res 0 _ rfl
    have r1 := cells_at HD.out.res 1 _ rfl
    have r2 := cells_at HD.out.res 2 _ rfl
    have r3 := cells_at HD.out.res 3 _ rfl
    simp only [List.getElem_toArray, List.getElem_cons_succ, List.getElem_cons_zero] at r0 r1 r2 r3
    have fr0 := froz_at HD.out.res 0
    have fr1 := froz_at HD.out.res 1
    have fr2 := froz_at HD.out.res 2
    have fr3 := froz_at HD.out.res 3
    have hlr := heap_lt HD.out.res
    clear hD5
    go_wp2_with fail
    refine bodyPost_ret (res_ct rfl rfl (set4 HD.out.res) Try.underlying60 rfl (by kernel_rfl)) rfl (HN.out.1 HG.out _ HD.out.bel HD.out.res)
  obtain ⟨N5, hN5⟩ : ∃ N5, N5 = getN l p := ⟨_, rfl⟩
  obtain ⟨d, hd⟩ : ∃ d, d = p + 1 + getN l p := ⟨_, rfl⟩
  have ht := rtake_yes _ l p w4 (HV.out.below hD4.bel) hl c2.1 c2.2
  rw [← hd, ← hN5] at ht
  have hdl : d ≤ l.length := by omega
  have hd5 : d = dEnd l := by unfold dEnd dM; rw [← HP.out.1]; have := HP.out.1; omega
  have hN9 : N5 = dM l := by unfold dM; rw [← HP.out.1]; exact hN5
  have HDd := Lib.hid (⟨hd5, hN9⟩ : _ ∧ _)
  have HT := Lib.hid ht
  clear ht hd hN5 c2 hd5 hN9
  have t0 := cells_at hD4.tab 0 _ rfl
  have t1 := cells_at hD4.tab 1 _ rfl
  have t2 := cells_at hD4.tab 2 _ rfl
  have t3 := cells_at hD4.tab 3 _ rfl
  simp only [List.getElem_toArray, List.getElem_cons_succ, List.getElem_cons_zero] at t0 t1 t2 t3
  have ft0 := froz_at hD4.tab 0
  have ft1 := froz_at hD4.tab 1
  have ft2 := froz_at hD4.tab 2
  have ft3 := froz_at hD4.tab 3
  have hlt := heap_lt hD4.tab
  go_wp2_with fail
  refine HT.out.mono ?_
  rintro e w5 ⟨y, rfl, hown, hb5⟩
  have hlt4 := heap_lt hD4.tab
  have hD5 := hD4.below hb5
  have hx5 := own_only HX4.out.1 (Only.new hb5 fun _ => False) (fun _ _ => id)
  obtain ⟨ay, ky, rfl⟩ := own_slice hown
  obtain ⟨w6, hw6⟩ : ∃ w6, w6 = w5.setCell ⟨q + 1, 2, none⟩ (.slice ay N5 ky) := ⟨_, rfl⟩
  have hD6 : RDI w q (.int .i64 S) (.slice ax N4 kx) (.slice ay N5 ky) (.slice none 0 0) w6 := by rw [hw6]; exact hD5.s2 _
  have hx6 : w6.ownsRow w2.heap.size 3 1 (.slice ax N4 kx) N4 ((intsOf ((l.drop 5).take N4)).map i64v) := by rw [hw6]; exact RDI.own HX4.out.2 hx5 2 _
  have hy6 : w6.ownsRow w4.heap.size 3 1 (.slice ay N5 ky) N5 ((intsOf ((l.drop (p + 1)).take N5)).map i64v) := by rw [hw6]; exact RDI.own hlt4 hown 2 _
  have HX6 := Lib.hid (⟨hx6, hy6, HX4.out.2, hlt4⟩ : _ ∧ _ ∧ _ ∧ _)
  have HW6 := Lib.hid hw6
  clear t0 t1 t2 t3 ft0 ft1 ft2 ft3 hlt
  have t0 := cells_at hD5.tab 0 _ rfl
  have t1 := cells_at hD5.tab 1 _ rfl
  have t2 := cells_at hD5.tab 2 _ rfl
  have t3 := cells_at hD5.tab 3 _ rfl
  simp only [List.getElem_toArray, List.getElem_cons_succ, List.getElem_cons_zero] at t0 t1 t2 t3
  have ft0 := froz_at hD5.tab 0
  have ft1 := froz_at hD5.tab 1
  have ft2 := froz_at hD5.tab 2
  have ft3 := froz_at hD5.tab 3
  have hlt := heap_lt hD5.tab
  clear hw6 hx5 hx6 hy6 hlt4 hown hb5 hD4 HX4 HT
  go_upto_region 7 with (fail)
  rw [← HW6.out]
  clear HW6 hD5
  clear t0 t1 t2 t3 ft0 ft1 ft2 ft3 hlt
  have e1 : IntKind.i64.wrap ((l.length : Int) - (d : Int)) = (l.length : Int) - (d : Int) := IntWalk.i64_in _ (by omega)
  have e0 : decide ((d : Int) < 0) = false := by simp
  by_cases c3 : d + 2 ≤ l.length
  rotate_left
  · have hng : ¬ dGood n l := fun hg => by have := hg.1; unfold dEnough at this; rw [← HDd.out.1] at this; omega
    have HG := Lib.hid hng
    have e2 : decide ((l.length : Int) - (d : Int) < 2) = true := by simp; omega
    have e3 : (l.length : Int) - (d : Int) < 2 := by omega
    clear hng c3
    have HD := Lib.hid hD6
    have r0 := cells_at HD.out.res 0 _ rfl
    have r1 := cells_at HD.out.res 1 _ rfl
    have r2 := cells_at HD.out.res 2 _ rfl
    have r3 := cells_at HD.out.res 3 _ rfl
    simp only [List.getElem_toArray, List.getElem_cons_succ, List.getElem_cons_zero] at r0 r1 r2 r3
    have fr0 := froz_at HD.out.res 0
    have fr1 := froz_at HD.out.res 1
    have fr2 := froz_at HD.out.res 2
    have fr3 := froz_at HD.out.res 3
    have hlr := heap_lt HD.out.res
    clear hD6
    go_wp2_with fail
    refine bodyPost_ret (res_ct rfl rfl (set4 HD.out.res) Try.underlying60 rfl (by kernel_rfl)) rfl (HN.out.1 HG.out _ HD.out.bel HD.out.res)
  have e2 : decide ((l.length : Int) - (d : Int) < 2) = false := by simp; omega
  have e3 : ¬ (l.length : Int) - (d : Int) < 2 := by omega
  have e4 : IntKind.i64.wrap ((d : Int) + 2) = (d : Int) + 2 := IntWalk.i64_in _ (by omega)
  have hcut : ∀ w, (Instr.sliceAt 23 (.slice a l.length c) (some (.int .i64 ((d : Int) + 2))) none none).run Try.prog w = .ok (cutV a c (d + 2) l.length) w := fun w => by
    have := run_cut_from (P := Try.prog) Try.underlying23 hi hz1 a l.length c (d + 2) (by omega) w
    rwa [Int.natCast_add] at this
  have hcv : RB w6 (cutV a c (d + 2) l.length) (l.drop (d + 2)) := by
    have := RV.cut (HV.out.below hD6.bel) (i := d + 2) (j := l.length) (by omega) (by simp)
    rw [List.take_of_length_le (by simp)] at this
    show RV _ _ _
    rw [List.map_drop]
    exact this
  obtain ⟨y2, hy2⟩ : ∃ y, y = cutV a c (d + 2) l.length := ⟨_, rfl⟩
  simp only [← hy2] at hcut
  rw [← hy2] at hcv
  have hiz := isZero_calls _ _ w6 hcv
  have hzz : (l.drop (d + 2)).all (· == 0) = dZero l := by unfold dZero; rw [← HDd.out.1]
  rw [hzz] at hiz
  obtain ⟨Z, hZ⟩ : ∃ Z, Z = dZero l := ⟨_, rfl⟩
  rw [← hZ] at hiz
  have HIZ := Lib.hid (⟨hiz, hZ⟩ : _ ∧ _)
  have HD6 := Lib.hid hD6
  clear hiz hZ hzz hcv hy2
  go_wp2_with fail
  refine HIZ.out.1.mono ?_
  rintro e w' ⟨rfl, rfl⟩
  cases Z
  · have hng : ¬ dGood n l := fun hg => by have := hg.2.1; rw [← HIZ.out.2] at this; cases this
    have HG := Lib.hid hng
    clear hng c3 HIZ
    have HD := Lib.hid hD6
    have r0 := cells_at HD.out.res 0 _ rfl
    have r1 := cells_at HD.out.res 1 _ rfl
    have r2 := cells_at HD.out.res 2 _ rfl
    have r3 := cells_at HD.out.res 3 _ rfl
    simp only [List.getElem_toArray, List.getElem_cons_succ, List.getElem_cons_zero] at r0 r1 r2 r3
    have fr0 := froz_at HD.out.res 0
    have fr1 := froz_at HD.out.res 1
    have fr2 := froz_at HD.out.res 2
    have fr3 := froz_at HD.out.res 3
    have hlr := heap_lt HD.out.res
    clear hD6
    go_wp2_with fail
    refine bodyPost_ret (res_ct rfl rfl (set4 HD.out.res) Try.underlying60 rfl (by kernel_rfl)) rfl (HN.out.1 HG.out _ HD.out.bel HD.out.res)
  have hzt := HIZ.out.2.symm
  obtain ⟨bb, bo, c', ee, _, _, hc⟩ := (HV.out.below hD6.bel).out (by omega)
  simp only [Value.slice.injEq] at ee
  obtain ⟨rfl, -, rfl⟩ := ee
  have hx1 := hc d (by omega)
  have hx2 := hc (d + 1) (by omega)
  obtain ⟨C1, hC1⟩ : ∃ C1, C1 = l[d] := ⟨_, rfl⟩
  obtain ⟨C2, hC2⟩ : ∃ C2, C2 = l[d + 1] := ⟨_, rfl⟩
  rw [← hC1] at hx1
  rw [← hC2] at hx2
  have hn1 : C1.toNat = getN l (dEnd l) := by rw [← HDd.out.1, getN_at (by omega), hC1]
  have hn2 : C2.toNat = getN l (dEnd l + 1) := by rw [← HDd.out.1, getN_at (by omega), hC2]
  have h81 := C1.toNat_lt
  have h82 := C2.toNat_lt
  have w81 : IntKind.i64.wrap (C1.toNat : Int) = (C1.toNat : Int) := IntWalk.i64_in _ (by omega)
  have w82 : IntKind.i64.wrap (C2.toNat : Int) = (C2.toNat : Int) := IntWalk.i64_in _ (by omega)
  have e5 : IntKind.i64.wrap ((d : Int) + 1) = (d : Int) + 1 := IntWalk.i64_in _ (by omega)
  have i1 : (d : Int) < (l.length : Int) := by omega
  have i2 : (d : Int) + 1 < (l.length : Int) := by omega
  have i3 : (0 : Int) ≤ (d : Int) + 1 := by omega
  have i4 : (0 : Int) ≤ (d : Int) := by omega
  have i5 : ((d : Int) + 1).toNat = d + 1 := by omega
  have hlb := cell_lt hx1
  obtain ⟨w7, hw7⟩ : ∃ w7, w7 = ((w6.setCell ⟨q + 1, 3, none⟩ (.slice (some ⟨w6.heap.size, 0, none⟩) 2 2)).alloc (.cells #[.int .i64 C1.toNat, .int .i64 C2.toNat] 3)).drew := ⟨_, rfl⟩
  obtain ⟨wm, hwm⟩ : ∃ wm, wm = w6.setCell ⟨q + 1, 3, none⟩ (.slice (some ⟨w6.heap.size, 0, none⟩) 2 2) := ⟨_, rfl⟩
  have hsm : wm.heap.size = w6.heap.size := by rw [hwm, size_set]
  rw [← hwm] at hw7
  have hbm7 : Below wm.heap.size wm w7 := by rw [hw7]; exact ((Below.refl _ _).alloc (Nat.le_refl _) _).drew
  have hD7 : RDI w q (.int .i64 S) (.slice ax N4 kx) (.slice ay N5 ky) (.slice (some ⟨w6.heap.size, 0, none⟩) 2 2) w7 := RDI.below (by rw [hwm]; exact hD6.s3 _) hbm7
  have hnb : q + 1 < w6.heap.size := heap_lt hD6.tab
  have hT7 : w7.ownsRow w6.heap.size 3 1 (.slice (some ⟨w6.heap.size, 0, none⟩) 2 2) 2 [.int .i64 C1.toNat, .int .i64 C2.toNat] := by
    rw [hw7]
    exact ⟨rfl, .inr ⟨_, 2, #[.int .i64 C1.toNat, .int .i64 C2.toNat], rfl, Nat.le_refl _, heap_is hsm.symm, Nat.le_refl _, by decide, rfl, rfl⟩⟩
  have hx7 : w7.ownsRow w2.heap.size 3 1 (.slice ax N4 kx) N4 ((intsOf ((l.drop 5).take N4)).map i64v) := own_only (by rw [hwm]; exact RDI.own HX6.out.2.2.1 HX6.out.1 3 _) (Only.new hbm7 fun _ => False) (fun _ _ => id)
  have hy7 : w7.ownsRow w4.heap.size 3 1 (.slice ay N5 ky) N5 ((intsOf ((l.drop (p + 1)).take N5)).map i64v) := own_only (by rw [hwm]; exact RDI.own HX6.out.2.2.2 HX6.out.2.1 3 _) (Only.new hbm7 fun _ => False) (fun _ _ => id)
  have hsq : (dTab l).seq = S := by rw [HS.out.2]; rfl
  have hpx : (intsOf ((l.drop 5).take N4)) = (dTab l).place := by rw [HP.out.2]; rfl
  have hsx : (intsOf ((l.drop (p + 1)).take N5)) = (dTab l).spare := by rw [HDd.out.2, show p + 1 = 6 + dN l by have := HP.out.1; omega]; rfl
  have htx : ([(C1.toNat : Int), (C2.toNat : Int)] : List Int) = (dTab l).tabs := by rw [hn1, hn2]; rfl
  have htv : ([.int .i64 C1.toNat, .int .i64 C2.toNat] : List Value) = ((dTab l).tabs).map i64v := by rw [← htx]; rfl
  rw [hpx] at hx7
  rw [hsx] at hy7
  rw [htv] at hT7
  have hck := rtcheck_calls (dTab l).r (.agg #[.int .i64 S, .slice ax N4 kx, .slice ay N5 ky, .slice (some ⟨w6.heap.size, 0, none⟩) 2 2]) n w7 ⟨_, _, _, by unfold RTb.cells; rw [show (dTab l).r.seq = (S : Int) by rw [← hsq]; rfl], RV.own hx7, RV.own hy7, RV.own hT7⟩ hn (by show (intsOf _).length ≤ 1000; rw [intsOf_length]; simp; omega) (by show (intsOf _).length ≤ 1000; rw [intsOf_length]; simp; omega) (by show (dTab l).tabs.length ≤ 1000; rw [← htx]; simp)
  rw [Tb.r_err] at hck
  have hen : dEnough l := by unfold dEnough; rw [← HDd.out.1]; exact c3
  have hlx : w2.heap.size > q + 1 := HX6.out.2.2.1
  have hly : w4.heap.size > q + 1 := HX6.out.2.2.2
  have H7 := Lib.hid (⟨hck, hD7, hx7, hy7, hT7, hsq, hen, hzt, hlx, hly, hnb⟩ : _ ∧ _ ∧ _ ∧ _ ∧ _ ∧ _ ∧ _ ∧ _ ∧ _ ∧ _ ∧ _)
  have HW7 := Lib.hid hw7
  have t0 := cells_at hD6.tab 0 _ rfl
  have t1 := cells_at hD6.tab 1 _ rfl
  have t2 := cells_at hD6.tab 2 _ rfl
  have t3 := cells_at hD6.tab 3 _ rfl
  simp only [List.getElem_toArray, List.getElem_cons_succ, List.getElem_cons_zero] at t0 t1 t2 t3
  have ft0 := froz_at hD6.tab 0
  have ft1 := froz_at hD6.tab 1
  have ft2 := froz_at hD6.tab 2
  have ft3 := froz_at hD6.tab 3
  have hlt := heap_lt hD6.tab
  clear hck hD7 hx7 hy7 hT7 hsq hen hzt hlx hly hnb hw7 hbm7 hsm hpx hsx htx htv hn1 hn2 hC1 hC2 hc hD6 HD6 HIZ HX6 HDd e0 e1 e2 e3 e4 hcut
  go_upto_region 9 with (fail)
  (refine wp_region_mix [0, 1, 2, 3, 4, 5, 6, 7, 8, 9, 10, 11, 12, 13] [(true, true), (true, true), (true, true), (true, false), (true, true), (true, true), (true, true), (true, true), (true, true), (true, false), (true, true), (false, false), (true, true), (false, false)] [0, 0, 3, 7, 15, 0, 0, 64, 224, 480, 992, 2047, 4095, 8191] _ (by kernel_rfl) (by kernel_rfl) (rfl : _ = _) ?_; simp only [pickL, List.map_cons, List.map_nil, List.getD_cons_succ, List.getD_cons_zero])
  (repeat (first | (refine mix_pure (fun hne K hK => ?_); go_simp; refine hK _ ?_; clear hK K hne) | (refine mix_load ?_ (fun K hK => ?_); (focus (first | rfl | (go_simp; done))); go_simp; refine hK _ ?_; clear hK K) | (refine mix_skip ?_ (fun K hK => ?_); (focus (first | rfl | (go_simp; done))); go_simp; refine hK _ ?_; clear hK K)))
  (try simp only [w81, w82])
  (refine mix_one (by first | rfl | (go_simp; done)) (fun R hR hX => ?_))
  go_wp2_with fail
  ((try simp only [wpList]); refine hR _ _ rfl ⟨fun w' => w' = _, rfl, (fun h => by cases h), ?_⟩; clear hR hX R)
  (repeat (first | (refine mix_pure (fun hne K hK => ?_); go_simp; refine hK _ ?_; clear hK K hne) | (refine mix_load ?_ (fun K hK => ?_); (focus (first | rfl | (go_simp; done))); go_simp; refine hK _ ?_; clear hK K) | (refine mix_skip ?_ (fun K hK => ?_); (focus (first | rfl | (go_simp; done))); go_simp; refine hK _ ?_; clear hK K)))
  (refine mix_one (by first | rfl | (go_simp; done)) (fun R hR hX => ?_))
  go_wp2_with fail
  ((try simp only [wpList]); refine hR _ _ rfl ⟨fun w' => w' = _, rfl, (fun h => by cases h), ?_⟩; clear hR hX R)
  refine mix_done ?_
  rw [← hwm, ← HW7.out]
  clear t0 t1 t2 t3 ft0 ft1 ft2 ft3 hlt
  clear hwm HW7 hx1 hx2 hlb w81 w82 e5 i1 i2 i3 i4 i5
  generalize w6.heap.size = zb at H7 ⊢
  have t0 := cells_at H7.out.2.1.tab 0 _ rfl
  have t1 := cells_at H7.out.2.1.tab 1 _ rfl
  have t2 := cells_at H7.out.2.1.tab 2 _ rfl
  have t3 := cells_at H7.out.2.1.tab 3 _ rfl
  simp only [List.getElem_toArray, List.getElem_cons_succ, List.getElem_cons_zero] at t0 t1 t2 t3
  have ft0 := froz_at H7.out.2.1.tab 0
  have ft1 := froz_at H7.out.2.1.tab 1
  have ft2 := froz_at H7.out.2.1.tab 2
  have ft3 := froz_at H7.out.2.1.tab 3
  have hlt := heap_lt H7.out.2.1.tab
  go_wp2_with fail
  refine H7.out.1.mono ?_
  rintro e w8 ⟨rfl, hb8⟩
  have hD8 := H7.out.2.1.below hb8
  clear t0 t1 t2 t3 ft0 ft1 ft2 ft3 hlt
  by_cases hok : (dTab l).Ok n
  rotate_left
  · have hng : ¬ dGood n l := fun hg => hok hg.2.2
    have HG := Lib.hid hng
    rw [show (dTab l).err n = 62 from if_neg hok]
    clear hng hok
    have HD := Lib.hid hD8
    have r0 := cells_at HD.out.res 0 _ rfl
    have r1 := cells_at HD.out.res 1 _ rfl
    have r2 := cells_at HD.out.res 2 _ rfl
    have r3 := cells_at HD.out.res 3 _ rfl
    simp only [List.getElem_toArray, List.getElem_cons_succ, List.getElem_cons_zero] at r0 r1 r2 r3
    have fr0 := froz_at HD.out.res 0
    have fr1 := froz_at HD.out.res 1
    have fr2 := froz_at HD.out.res 2
    have fr3 := froz_at HD.out.res 3
    have hlr := heap_lt HD.out.res
    clear hD8 hb8 H7
    go_wp2_with fail
    refine bodyPost_ret (res_ct rfl rfl (set4 HD.out.res) Try.underlying60 rfl (by kernel_rfl)) rfl (HN.out.1 HG.out _ HD.out.bel HD.out.res)
  · have hg : dGood n l := ⟨H7.out.2.2.2.2.2.2.1, H7.out.2.2.2.2.2.2.2.1, hok⟩
    rw [show (dTab l).err n = 0 from if_pos hok]
    obtain ⟨-, -, hx7, hy7, hT7, hsq, -, -, hlx, hly, hlz⟩ := H7.out
    have hbq := put4 hD8.bel q (.int .i64 S) (.slice ax N4 kx) (.slice ay N5 ky) (.slice (some ⟨zb, 0, none⟩) 2 2) hD8.lo
    have hOq := only4 w8 q (.int .i64 S) (.slice ax N4 kx) (.slice ay N5 ky) (.slice (some ⟨zb, 0, none⟩) 2 2)
    have away : ∀ {B : Nat} {v : Value} {m : Nat} {ys : List Value}, q + 1 < B → w7.ownsRow B 3 1 v m ys → RV ((((w8.setCell ⟨q, 0, none⟩ (.int .i64 S)).setCell ⟨q, 1, none⟩ (.slice ax N4 kx)).setCell ⟨q, 2, none⟩ (.slice ay N5 ky)).setCell ⟨q, 3, none⟩ (.slice (some ⟨zb, 0, none⟩) 2 2)) v ys := fun hB ho =>
      RV.own (own_only (own_only ho (Only.new hb8 fun _ => False) (fun _ _ => id)) hOq (fun b hb e => by have := (ho.lt b hb).1; have e' : b = q := e; omega))
    have hlast := HN.out.2 hg _ _ _ _ (away hlx hx7) (away hly hy7) (away hlz hT7) hbq
    rw [hsq] at hlast
    have HL := Lib.hid (⟨hlast, hD8⟩ : _ ∧ _)
    clear hx7 hy7 hT7 hsq hlx hly hlz hlast hbq hOq hg hok away hb8 H7 hD8
    have r0 := cells_at HL.out.2.res 0 _ rfl
    have r1 := cells_at HL.out.2.res 1 _ rfl
    have r2 := cells_at HL.out.2.res 2 _ rfl
    have r3 := cells_at HL.out.2.res 3 _ rfl
    simp only [List.getElem_toArray, List.getElem_cons_succ, List.getElem_cons_zero] at r0 r1 r2 r3
    have fr0 := froz_at HL.out.2.res 0
    have fr1 := froz_at HL.out.2.res 1
    have fr2 := froz_at HL.out.2.res 2
    have fr3 := froz_at HL.out.2.res 3
    have hlr := heap_lt HL.out.2.res
    have t0 := cells_at HL.out.2.tab 0 _ rfl
    have t1 := cells_at HL.out.2.tab 1 _ rfl
    have t2 := cells_at HL.out.2.tab 2 _ rfl
    have t3 := cells_at HL.out.2.tab 3 _ rfl
    simp only [List.getElem_toArray, List.getElem_cons_succ, List.getElem_cons_zero] at t0 t1 t2 t3
    have ft0 := froz_at HL.out.2.tab 0
    have ft1 := froz_at HL.out.2.tab 1
    have ft2 := froz_at HL.out.2.tab 2
    have ft3 := froz_at HL.out.2.tab 3
    have hlt := heap_lt HL.out.2.tab
    go_wp2_with fail
    refine bodyPost_ret (res_ct rfl rfl (set4 (u0 := .int .i64 S) (u1 := .slice ax N4 kx) (u2 := .slice ay N5 ky) (u3 := .slice (some ⟨zb, 0, none⟩) 2 2) HL.out.2.res) Try.underlying60 rfl (by kernel_rfl)) rfl ?_
    exact HL.out.1
end Go.Proofs.Ytogejjbclimjjaa
