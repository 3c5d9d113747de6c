/- member.First, Full; the law's first. -/
--only r2
import Derived.Test.YtogejjbclimjjaaMsOf
import Derived.Deep.DeepCutAuto
namespace Go.Proofs.Ytogejjbclimjjaa
set_option linter.unusedVariables false
set_option linter.unusedSimpArgs false
open Go.RowKit

/-- the numbers below one -/
def upTo (n : Nat) : List Int := (List.range n).map fun (j : Nat) => (j : Int)
theorem upTo_succ (n : Nat) : upTo (n + 1) = upTo n ++ [(n : Int)] := by unfold upTo; rw [List.range_succ, List.map_append]; rfl
theorem upTo_length (n : Nat) : (upTo n).length = n := by simp [upTo]
def Ms.one (n : Nat) : Ms := ⟨1, upTo n, n, 255, 0⟩

set_option maxRecDepth 100000 in
set_option maxHeartbeats 1000000 in
theorem msfirst_calls (n b p s : Nat) (w : World) (hn : n ≤ 100) (hn1 : 0 < n) :
    Calls Try.prog 13 #[geoV n b p s] w fun e w' => ∃ v, e = .returned ((Ms.one n).val v) ∧ w'.ownsRow w.heap.size 3 1 v n ((upTo n).map i64v) ∧ Below w.heap.size w w' := by
  obtain ⟨ti, hti, hz0, hz1, hz2⟩ := info_parts infoI64
  have hfin : ∀ v w', w'.ownsRow w.heap.size 3 1 v n ((upTo n).map i64v) → Below w.heap.size w w' → (fun e w' => ∃ v, e = Ending.returned ((Ms.one n).val v) ∧ w'.ownsRow w.heap.size 3 1 v n ((upTo n).map i64v) ∧ Below w.heap.size w w') (.returned (.agg #[.int .u32 1, v, .int .i64 n, .int .i64 255, .int .i64 0])) w' := fun v w' h1 h2 => ⟨v, rfl, h1, h2⟩
  generalize (fun e w' => ∃ v, e = Ending.returned ((Ms.one n).val v) ∧ w'.ownsRow w.heap.size 3 1 v n ((upTo n).map i64v) ∧ Below w.heap.size w w') = Post at hfin ⊢
  have HF := Lib.hid hfin
  obtain ⟨q, hq⟩ : ∃ q, q = w.heap.size := ⟨_, rfl⟩
  obtain ⟨w2, hw2⟩ : ∃ w2, w2 = (w.alloc (.cells #[.int .i64 n, .int .i64 b, .int .i64 p, .int .i64 s] 28)).alloc (.cells #[.int .u32 0, .slice none 0 0, .int .i64 0, .int .i64 0, .int .i64 0] 37) := ⟨_, rfl⟩
  obtain ⟨w3, hw3⟩ : ∃ w3, w3 = w2.alloc (.cells #[.int .u32 1, .slice none 0 0, .int .i64 n, .int .i64 255, .int .i64 0] 37) := ⟨_, rfl⟩
  have hb2 : Below w.heap.size w w2 := by rw [hw2]; exact ((Below.refl _ _).alloc (Nat.le_refl _) _).alloc (by simp) _
  have hG2 : w2.heap[q]? = some (.cells #[.int .i64 n, .int .i64 b, .int .i64 p, .int .i64 s] 28 (0, 0)) := by rw [hw2]; exact heap_old _ (heap_is hq)
  have hR2 : w2.heap[q + 1]? = some (.cells #[.int .u32 0, .slice none 0 0, .int .i64 0, .int .i64 0, .int .i64 0] 37 (0, 0)) := by rw [hw2]; exact heap_is (by simp [hq])
  have hs2 : w2.heap.size = q + 2 := by rw [hw2, hq]; simp
  have hb23 : Below w2.heap.size w2 w3 := by rw [hw3]; exact (Below.refl _ _).alloc (Nat.le_refl _) _
  have hT3 : w3.heap[q + 2]? = some (.cells #[.int .u32 1, .slice none 0 0, .int .i64 n, .int .i64 255, .int .i64 0] 37 (0, 0)) := by rw [hw3]; exact heap_is hs2.symm
  have hs3 : w3.heap.size = q + 3 := by rw [hw3]; simp [hs2]
  have g0 := cells_at hG2 0 _ rfl
  have g0' := cells_at (heap_keep hb23 hG2) 0 _ rfl
  simp only [List.getElem_toArray, List.getElem_cons_succ, List.getElem_cons_zero] at g0 g0'
  have hlg := heap_lt hG2
  have hlg' := heap_lt (heap_keep hb23 hG2)
  have HW2 := Lib.hid hw2
  have HW3 := Lib.hid hw3
  have H3 := Lib.hid (⟨hb2.trans (hb23.mono hb2.size), heap_keep hb23 hR2, hT3, hs3, hs2, hq⟩ : _ ∧ _ ∧ _ ∧ _ ∧ _ ∧ _)
  clear hw2 hw3 hb2 hG2 hR2 hb23 hT3 hs3 hs2 hfin
  have hn0 : (0 : Int) ≤ (n : Int) := by omega
  go_enter Try.func13, Try.ntmps13
  go_upto_region 1 with (fail)
  rw [← hq, ← HW2.out]
  clear hq HW2
  go_upto_region 2 with (fail)
  rw [H3.out.2.2.2.2.1, ← HW3.out]
  clear HW3 g0 hlg
  go_wp2_with fail
  clear g0' hlg'
  go_loopw [11] (fun i wr => ∃ (j : Nat) (v : Value), j ≤ n ∧ i = .int .i64 j ∧ wr.heap[q + 2]? = some (.cells #[.int .u32 1, v, .int .i64 n, .int .i64 255, .int .i64 0] 37 (0, 0)) ∧ wr.ownsRow (q + 3) 3 1 v j ((upTo j).map i64v) ∧ wr.heap[q + 1]? = some (.cells #[.int .u32 0, .slice none 0 0, .int .i64 0, .int .i64 0, .int .i64 0] 37 (0, 0)) ∧ Below w.heap.size w wr) (fun i _ => n - (intOf i).toNat)
  case atStart => exact ⟨0, _, Nat.zero_le _, rfl, H3.out.2.2.1, World.ownsRow_nil _ _ _ _, H3.out.2.1, H3.out.1⟩
  case round =>
    obtain ⟨j, v, hj, rfl, hT, hown, hR, hbel⟩ := hrel
    obtain ⟨a0, k0, rfl⟩ := own_slice hown
    by_cases hlt : j < n
    · have hjn : (j : Int) < (n : Int) := by omega
      have t1 := cells_at hT 1 _ rfl
      have ft1 := froz_at hT 1
      simp only [List.getElem_toArray, List.getElem_cons_succ, List.getElem_cons_zero] at t1
      have hlt2 := heap_lt hT
      have hal := (Below.refl wr.heap.size wr).alloc (Nat.le_refl _) (.cells #[.int .i64 j] 3)
      have hrv : RV (wr.alloc (.cells #[.int .i64 j] 3)) (.slice (some ⟨wr.heap.size, 0, none⟩) 1 1) [.int .i64 j] := RV.cells (n := 1) (heap_is rfl) rfl (by decide) rfl
      have hown1 := hown.alloc (.cells #[.int .i64 j] 3)
      have hsz : q + 3 ≤ (wr.alloc (.cells #[.int .i64 j] 3)).heap.size := by have := hal.size; omega
      have hB1 := hbel.trans (hal.mono hbel.size)
      have H5 := Lib.hid (⟨hB1, heap_keep hal hT, heap_keep hal hR, hsz, hlt⟩ : _ ∧ _ ∧ _ ∧ _ ∧ _)
      clear hal hB1 hT hR hbel hown hlt
      go_wp2_with (at_builtin; (refine wpList_append_RV rfl _ _ 22 rfl (q + 3) 3 ti (.int .i64 0) 8 Try.underlying22 hti hz0 hz1 hz2 rfl (.slice a0 j k0) j _ rfl hown1 _ _ rfl hrv (one_cell rfl) ?c1 ?c2 ?c3 ?_))
      case c1 => simp only [maxLen, List.length_cons, List.length_nil]; omega
      case c2 => simp only [List.length_cons, List.length_nil]; omega
      case c3 => exact H5.out.2.2.2.1
      intro v5 w5 hown5 hg5 _
      have hbs := below_pushed (Below.refl (q + 3) (wr.alloc (.cells #[.int .i64 j] 3))) hown1 hg5 H5.out.2.2.2.1 (Nat.le_refl _)
      have hB5 := below_pushed H5.out.1 hown1 hg5 H5.out.1.size (by have := H3.out.2.2.2.2.2; omega)
      have hT5 := (hbs.block (q + 2) (by omega)).trans H5.out.2.1
      have hR5 := (hbs.block (q + 1) (by omega)).trans H5.out.2.2.1
      obtain ⟨a5, k5, rfl⟩ := own_slice hown5
      have hown5' : w5.ownsRow (q + 3) 3 1 (.slice a5 (j + 1) k5) (j + 1) ((upTo (j + 1)).map i64v) := by rw [upTo_succ, List.map_append]; exact hown5
      have t1 := cells_at hT5 1 _ rfl
      have ft1 := froz_at hT5 1
      simp only [List.getElem_toArray, List.getElem_cons_succ, List.getElem_cons_zero] at t1
      have hlt2 := heap_lt hT5
      have hT6 := set_at (o := 1) hT5 (.slice a5 (j + 1) k5)
      simp only [List.setIfInBounds_toArray, List.set_cons_zero, List.set_cons_succ] at hT6
      have hR6 := set_other (a := ⟨q + 2, 1, none⟩) (.slice a5 (j + 1) k5) hR5 (by show q + 1 ≠ q + 2; omega)
      have hO6 := own_only hown5' (Only.of_set w5 ⟨q + 2, 1, none⟩ (.slice a5 (j + 1) k5)) (fun b hb e => by have := (hown5'.lt b hb).1; have e' : b = q + 2 := e; omega)
      have hqw : w.heap.size ≤ q + 2 := by have := H3.out.2.2.2.2.2; omega
      have hB6 : Below w.heap.size w (w5.setCell ⟨q + 2, 1, none⟩ (.slice a5 (j + 1) k5)) := hB5.setCell hqw _
      have H6 := Lib.hid (⟨hT6, hO6, hR6, hB6, H5.out.2.2.2.2⟩ : _ ∧ _ ∧ _ ∧ _ ∧ _)
      clear hown1 hrv hsz hown5 hown5' hg5 hbs hB5 hT5 hR5 hT6 hR6 hO6 hB6 H5
      go_wp2_with fail
      go_roundw
      case rel => exact ⟨j + 1, _, H6.out.2.2.2.2, by go_num, H6.out.1, H6.out.2.1, H6.out.2.2.1, H6.out.2.2.2.1⟩
      case measure =>
        show n - ((j : Int) + 1).toNat < n - (j : Int).toNat
        have := H6.out.2.2.2.2
        omega
    · obtain rfl : j = n := by omega
      have t0 := cells_at hT 0 _ rfl
      have t1 := cells_at hT 1 _ rfl
      have t2 := cells_at hT 2 _ rfl
      have t3 := cells_at hT 3 _ rfl
      have t4 := cells_at hT 4 _ rfl
      have r0 := cells_at hR 0 _ rfl
      have r1 := cells_at hR 1 _ rfl
      have r2 := cells_at hR 2 _ rfl
      have r3 := cells_at hR 3 _ rfl
      have r4 := cells_at hR 4 _ rfl
      have f0 := froz_at hR 0
      have f1 := froz_at hR 1
      have f2 := froz_at hR 2
      have f3 := froz_at hR 3
      have f4 := froz_at hR 4
      simp only [List.getElem_toArray, List.getElem_cons_succ, List.getElem_cons_zero] at t0 t1 t2 t3 t4 r0 r1 r2 r3 r4
      have hlt2 := heap_lt hT
      have hlr := heap_lt hR
      have hset := set5 (.int .u32 1) (.slice a0 j k0) (.int .i64 j) (.int .i64 255) (.int .i64 0) hR
      have hput := put5 hbel (q + 1) (.int .u32 1) (.slice a0 j k0) (.int .i64 j) (.int .i64 255) (.int .i64 0) (by have := H3.out.2.2.2.2.2; omega)
      have hon := own_only hown (only5 wr (q + 1) (.int .u32 1) (.slice a0 j k0) (.int .i64 j) (.int .i64 255) (.int .i64 0)) (fun b hb e => by have := (hown.lt b hb).1; have e' : b = q + 1 := e; omega)
      have HE := Lib.hid (⟨hset, HF.out _ _ (own_mono hon (by have := H3.out.2.2.2.2.2; omega)) hput⟩ : _ ∧ _)
      clear hset hput hon hT hR hown hbel hlt hj
      go_wp2_with fail
      refine bodyPost_ret (res_c rfl rfl HE.out.1 Try.underlying37 rfl (by kernel_rfl)) rfl ?_
      exact HE.out.2

theorem msfull_calls (S : Ms) (v : Value) (w : World) (hS : MsAt w S v) :
    Calls Try.prog 37 #[S.val v] w fun e w' => e = .returned (.bool (S.dead == 255)) ∧ Below w.heap.size w w' := by
  obtain ⟨a, c, rfl, hl1, hl2⟩ := hS.c.form
  have hal := (Below.refl w.heap.size w).alloc (Nat.le_refl _) (.cells (S.cells (.slice a S.chips.length c)) 37)
  have hQ : (w.alloc (.cells (S.cells (.slice a S.chips.length c)) 37)).heap[w.heap.size]? = some (.cells (S.cells (.slice a S.chips.length c)) 37 (0, 0)) := heap_is rfl
  unfold Ms.cells at hQ hal
  have p3 := cells_at hQ 3 _ rfl
  simp only [List.getElem_toArray, List.getElem_cons_succ, List.getElem_cons_zero] at p3
  have hlq := heap_lt hQ
  have HX := Lib.hid hal
  clear hQ hal
  unfold Ms.val Ms.cells
  go_enter Try.func37, Try.ntmps37
  go_wp2_with fail
  go_ret
  exact ⟨rfl, HX.out⟩

set_option maxRecDepth 100000 in
set_option maxHeartbeats 1000000 in
theorem msfirst_law (w : World) : Calls Try.prog 9 #[] w fun e w' => e = .returned (.bool true) ∧ Below w.heap.size w w' := by
  obtain ⟨k, hk, hk0, hsh⟩ := mshape_calls 0 w
  obtain rfl := hk0 rfl
  rw [show geoV ((3 + 0 : Nat) : Int) ((20 : Nat) : Int) ((6 : Nat) : Int) ((256 : Nat) : Int) = .agg #[.int .i64 3, .int .i64 20, .int .i64 6, .int .i64 256] from rfl] at hsh
  have HSH := Lib.hid hsh
  clear hsh hk hk0
  go_enter Try.func9, Try.ntmps9
  go_wp2_with fail
  refine HSH.out.mono ?_
  rintro e w1 ⟨rfl, hb1⟩
  have hf := msfirst_calls 3 20 6 256 w1 (by omega) (by omega)
  rw [show geoV ((3 : Nat) : Int) ((20 : Nat) : Int) ((6 : Nat) : Int) ((256 : Nat) : Int) = .agg #[.int .i64 3, .int .i64 20, .int .i64 6, .int .i64 256] from rfl] at hf
  have H1 := Lib.hid (⟨hf, hb1⟩ : _ ∧ _)
  clear hf hb1
  go_wp2_with fail
  refine H1.out.1.mono ?_
  rintro e w2 ⟨v, rfl, hown, hb2⟩
  obtain ⟨a, c, rfl⟩ := own_slice hown
  obtain ⟨q, hq⟩ : ∃ q, q = w2.heap.size := ⟨_, rfl⟩
  have hri : RI w2 (.slice a 3 c) (upTo 3) := RV.own hown
  obtain ⟨w3, hw3⟩ : ∃ w3, w3 = w2.alloc (.cells #[.int .u32 1, .slice a 3 c, .int .i64 3, .int .i64 255, .int .i64 0] 37) := ⟨_, rfl⟩
  have hb23 : Below w2.heap.size w2 w3 := by rw [hw3]; exact (Below.refl _ _).alloc (Nat.le_refl _) _
  have hQ : w3.heap[q]? = some (.cells #[.int .u32 1, .slice a 3 c, .int .i64 3, .int .i64 255, .int .i64 0] 37 (0, 0)) := by rw [hw3]; exact heap_is hq
  have hB3 := H1.out.2.trans ((hb2.trans (hb23.mono hb2.size)).mono H1.out.2.size)
  have hms : MsAt w3 (Ms.one 3) (.slice a 3 c) := ⟨hri.below hb23, by show 1 < 4294967296; decide⟩
  obtain ⟨b0, o0, c0, e0, x2⟩ := (hri.below hb23).at (i := 2) (by rw [upTo_length]; omega)
  rw [upTo_length] at e0
  simp only [Value.slice.injEq] at e0
  obtain ⟨rfl, -, rfl⟩ := e0
  have x2 : w3.cell? ⟨b0, o0 + 2, none⟩ = some (.int .i64 2) := x2
  have hlb := cell_lt x2
  have hfull := msfull_calls (Ms.one 3) _ w3 hms
  unfold Ms.val Ms.cells at hfull
  have hfull : Calls Try.prog 37 #[.agg #[.int .u32 1, .slice (some ⟨b0, o0, none⟩) 3 c, .int .i64 3, .int .i64 255, .int .i64 0]] w3 fun e w' => e = .returned (.bool true) ∧ Below w3.heap.size w3 w' := hfull
  have HX := Lib.hid (⟨hfull, hB3, hQ⟩ : _ ∧ _ ∧ _)
  have HW3 := Lib.hid hw3
  have q0 := cells_at hQ 0 _ rfl
  have q1 := cells_at hQ 1 _ rfl
  have q2 := cells_at hQ 2 _ rfl
  have q3 := cells_at hQ 3 _ rfl
  have q4 := cells_at hQ 4 _ rfl
  simp only [List.getElem_toArray, List.getElem_cons_succ, List.getElem_cons_zero] at q0 q1 q2 q3 q4
  have hlq := heap_lt hQ
  unfold Ms.val Ms.cells Ms.one
  clear hfull hB3 hQ hms hri hown hb2 hb23 hw3 H1 HSH
  simp only [show ((1 : Nat) : Int) = 1 from rfl, show ((3 : Nat) : Int) = 3 from rfl]
  go_upto_region 2 with (fail)
  rw [← hq, ← HW3.out]
  clear hq HW3
  go_wp2_with fail
  refine HX.out.1.mono ?_
  rintro e w4 ⟨rfl, hb4⟩
  have hQ4 := heap_keep hb4 HX.out.2.2
  have q0 := cells_at hQ4 0 _ rfl
  simp only [List.getElem_toArray, List.getElem_cons_zero] at q0
  have hlq := heap_lt hQ4
  have HB := Lib.hid (HX.out.2.1.trans (hb4.mono HX.out.2.1.size))
  clear q1 q2 q3 q4 x2 hlb hb4 hQ4
  go_wp2_with fail
  go_ret
  exact ⟨rfl, HB.out⟩
end Go.Proofs.Ytogejjbclimjjaa
