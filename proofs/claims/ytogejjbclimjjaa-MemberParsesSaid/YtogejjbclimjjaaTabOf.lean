/- The document's tables: what a table is there; the same numbers, the same tables; a shape. -/
--only r2
import Derived.Test.YtogejjbclimjjaaTabEnc
import Derived.Deep.DeepCutAuto
namespace Go.Proofs.Ytogejjbclimjjaa
set_option linter.unusedVariables false
set_option linter.unusedSimpArgs false
open Go.RowKit

theorem RI.shape2 (n : Int) (w : World) : ∃ k : Nat, k < 49 ∧ (n = 0 → k = 0) ∧ Calls Try.prog 22 #[.int .i64 n] w fun e w' => e = .returned (geoV (3 : Nat) (16 + k : Nat) (4 : Nat) (256 : Nat)) ∧ Below w.heap.size w w' := by
  obtain ⟨j, hj, hpick⟩ := pick_eq n 49 (by omega) (by omega)
  rw [show ((49 : Nat) : Int) = 49 from rfl] at hpick
  refine ⟨j, hj, fun h => ?_, ?_⟩
  · subst h
    rw [IntKind.wrap_u64] at hpick
    unfold wrap64 at hpick
    have e : ((0 : Int) % 18446744073709551616).tmod 49 = 0 := by decide
    rw [e] at hpick
    omega
  have hbel := (Below.refl w.heap.size w).alloc (Nat.le_refl _) (.cells #[.int .i64 3, .int .i64 (16 + (j : Int)), .int .i64 4, .int .i64 256] 28)
  have hR : (w.alloc (.cells #[.int .i64 3, .int .i64 (16 + (j : Int)), .int .i64 4, .int .i64 256] 28)).heap[w.heap.size]? = some (.cells #[.int .i64 3, .int .i64 (16 + (j : Int)), .int .i64 4, .int .i64 256] 28 (0, 0)) := heap_is rfl
  go_enter Try.func22, Try.ntmps22
  go_wp2_with fail
  refine bodyPost_ret (res_c rfl rfl hR Try.underlying28 rfl (by kernel_rfl)) rfl ⟨?_, hbel⟩
  rw [show ((3 : Nat) : Int) = 3 from rfl, show ((4 : Nat) : Int) = 4 from rfl, show ((256 : Nat) : Int) = 256 from rfl, Int.natCast_add]; rfl

/-- a table as the document has it -/
structure RTb where
  seq : Int
  place : List Int
  spare : List Int
  tabs : List Int
def Tb.r (T : Tb) : RTb := ⟨T.seq, T.place, T.spare, T.tabs⟩
def RTb.cells (R : RTb) (vp vs vt : Value) : Array Value := #[.int .i64 R.seq, vp, vs, vt]
structure RTabAt (w : World) (R : RTb) (v : Value) : Prop where
  ex : ∃ vp vs vt, v = .agg (R.cells vp vs vt) ∧ RI w vp R.place ∧ RI w vs R.spare ∧ RI w vt R.tabs
theorem RTabAt.below {w w' : World} {R : RTb} {v : Value} (h : RTabAt w R v) (hb : Below w.heap.size w w') : RTabAt w' R v := by
  obtain ⟨vp, vs, vt, e, h1, h2, h3⟩ := h.ex
  exact ⟨vp, vs, vt, e, h1.below hb, h2.below hb, h3.below hb⟩

set_option maxRecDepth 100000 in
set_option maxHeartbeats 1000000 in
theorem of_calls (T : Tb) (vp vs : Value) (w : World) (hT : TabAt w T vp vs) :
    Calls Try.prog 24 #[tabV T vp vs] w fun e w' => ∃ v, e = .returned v ∧ RTabAt w' T.r v ∧ Below w.heap.size w w' := by
  obtain ⟨ap, cp, rfl, hp1, hp2⟩ := hT.p.form
  obtain ⟨ax, cx, rfl, hq1, hq2⟩ := hT.s.form
  obtain ⟨q, hq⟩ : ∃ q, q = w.heap.size := ⟨_, rfl⟩
  have hal := ((Below.refl w.heap.size w).alloc (Nat.le_refl _) (.cells (T.cells (.slice ap T.place.length cp) (.slice ax T.spare.length cx)) 57)).alloc (by simp) (.cells #[.int .i64 0, .slice none 0 0, .slice none 0 0, .slice none 0 0] 60)
  have hQ : ((w.alloc (.cells (T.cells (.slice ap T.place.length cp) (.slice ax T.spare.length cx)) 57)).alloc (.cells #[.int .i64 0, .slice none 0 0, .slice none 0 0, .slice none 0 0] 60)).heap[q]? = some (.cells (T.cells (.slice ap T.place.length cp) (.slice ax T.spare.length cx)) 57 (0, 0)) := heap_old _ (heap_is hq)
  have hR : ((w.alloc (.cells (T.cells (.slice ap T.place.length cp) (.slice ax T.spare.length cx)) 57)).alloc (.cells #[.int .i64 0, .slice none 0 0, .slice none 0 0, .slice none 0 0] 60)).heap[q + 1]? = some (.cells #[.int .i64 0, .slice none 0 0, .slice none 0 0, .slice none 0 0] 60 (0, 0)) := heap_is (by simp [hq])
  unfold Tb.cells at hal hQ hR
  generalize hw1 : (w.alloc (.cells #[.int .u32 T.seq, .slice ap T.place.length cp, .slice ax T.spare.length cx, .int .i64 T.t0, .int .i64 T.t1] 57)).alloc (.cells #[.int .i64 0, .slice none 0 0, .slice none 0 0, .slice none 0 0] 60) = w1 at hal hQ hR
  have HW := Lib.hid hw1
  have hseq := hT.seq
  have ew : IntKind.i64.wrap (T.seq : Int) = (T.seq : Int) := IntWalk.i64_in _ ⟨by omega, by omega⟩
  have HX := Lib.hid (⟨hal, hQ, hR, hT, hq⟩ : _ ∧ _ ∧ _ ∧ _ ∧ _)
  clear hw1 hal hT
  unfold tabV Tb.cells
  go_enter Try.func24, Try.ntmps24
  go_wp2_with fail
  rw [HW.out, ← hq]
  have p0 := cells_at hQ 0 _ rfl
  have p1 := cells_at hQ 1 _ rfl
  have p2 := cells_at hQ 2 _ rfl
  have r0 := cells_at hR 0 _ rfl
  have r1 := cells_at hR 1 _ rfl
  have r2 := cells_at hR 2 _ rfl
  have r3 := cells_at hR 3 _ rfl
  have f0 := froz_at hR 0
  have f1 := froz_at hR 1
  have f2 := froz_at hR 2
  have f3 := froz_at hR 3
  simp only [List.getElem_toArray, List.getElem_cons_succ, List.getElem_cons_zero] at p0 p1 p2 r0 r1 r2 r3
  have hlq := heap_lt hQ
  have hlr := heap_lt hR
  clear hq HW hQ hR
  (refine wp_region_mix [0, 1, 2, 3, 4, 5, 6, 7, 8, 9, 10] [(true, true), (true, false), (true, true), (true, true), (true, false), (true, true), (true, false), (true, true), (true, true), (true, true), (false, false)] [0, 1, 3, 0, 8, 0, 32, 0, 128, 511, 1023] _ (by kernel_rfl) (by kernel_rfl) (rfl : _ = _) ?_; simp only [pickL, List.map_cons, List.map_nil, List.getD_cons_succ, List.getD_cons_zero])
  (repeat (first | (refine mix_pure (fun hne K hK => ?_); go_simp; refine hK _ ?_; clear hK K hne) | (refine mix_load ?_ (fun K hK => ?_); (focus (first | rfl | (go_simp; done))); go_simp; refine hK _ ?_; clear hK K) | (refine mix_skip ?_ (fun K hK => ?_); (focus (first | rfl | (go_simp; done))); go_simp; refine hK _ ?_; clear hK K)))
  (refine mix_one (by first | rfl | (go_simp; done)) (fun R hR hX => ?_))
  go_wp2_with fail
  ((try simp only [wpList]); refine hR _ _ rfl ⟨fun w' => w' = _, rfl, (fun h => by cases h), ?_⟩; clear hR hX R)
  refine mix_done ?_
  go_wp2_with fail
  obtain ⟨hal, hQ, hR, hT, hq⟩ := HX.out
  have hsz : w1.heap.size = (w1.drew).heap.size := rfl
  have hS := set4 (u0 := .int .i64 T.seq) (u1 := .slice ap T.place.length cp) (u2 := .slice ax T.spare.length cx) (u3 := .slice (some ⟨q, 3, none⟩) 2 2) hR
  have hB := put4 hal (q + 1) (.int .i64 T.seq) (.slice ap T.place.length cp) (.slice ax T.spare.length cx) (.slice (some ⟨q, 3, none⟩) 2 2) (by omega)
  have hQ4 := (only4 w1 (q + 1) (.int .i64 T.seq) (.slice ap T.place.length cp) (.slice ax T.spare.length cx) (.slice (some ⟨q, 3, none⟩) 2 2)).at hQ (by omega)
  refine bodyPost_ret (res_c rfl rfl hS Try.underlying60 rfl (by kernel_rfl)) rfl ⟨_, rfl, ⟨_, _, _, rfl, (hT.p.below hB).below (Below.refl _ _).drew, (hT.s.below hB).below (Below.refl _ _).drew, ?_⟩, hB.drew⟩
  refine ⟨some ⟨q, 3, none⟩, 2, rfl, by simp [Tb.r, Tb.tabs], by simp [maxLen], (fun h => by cases h), .inr ⟨q, 3, rfl, fun i hi => ?_⟩⟩
  have hi : i < 2 := by simpa [Tb.r, Tb.tabs] using hi
  have : i = 0 ∨ i = 1 := by omega
  rcases this with rfl | rfl
  · exact cells_at hQ4 3 _ rfl
  · exact cells_at hQ4 4 _ rfl

set_option maxRecDepth 100000 in
set_option maxHeartbeats 1000000 in
theorem ints_calls (va vb : Value) (a b : List Int) (w : World) (ha : RI w va a) (hb : RI w vb b) :
    Calls Try.prog 66 #[va, vb] w fun e w' => e = .returned (.bool (decide (a = b))) ∧ Below w.heap.size w w' := by
  obtain ⟨aa, ca, rfl, ha1, ha2⟩ := ha.form
  obtain ⟨ab, cb, rfl, hb1, hb2⟩ := hb.form
  unfold maxLen at ha2 hb2
  have hfin : ∀ (r : Bool) w', r = decide (a = b) → Below w.heap.size w w' → (fun e w' => e = Ending.returned (.bool (decide (a = b))) ∧ Below w.heap.size w w') (.returned (.bool r)) w' := fun r w' hr hb => ⟨by rw [hr], hb⟩
  generalize (fun (e : Ending) w' => e = Ending.returned (.bool (decide (a = b))) ∧ Below w.heap.size w w') = Post at hfin ⊢
  have HF := Lib.hid hfin
  have HA := Lib.hid (⟨ha, hb⟩ : _ ∧ _)
  clear hfin ha hb
  go_enter Try.func66, Try.ntmps66
  by_cases hl : a.length = b.length
  rotate_left
  · have e1 : ((a.length : Int) != (b.length : Int)) = true := by simp; omega
    have HE := Lib.hid (HF.out false w (decide_eq_false (fun h => hl (by rw [h]))).symm (Below.refl _ _))
    clear hl
    go_wp2_with fail
    exact HE.out
  · have e1 : ((a.length : Int) != (b.length : Int)) = false := by simp; omega
    have HL := Lib.hid hl
    clear hl
    go_wp2_with fail
    clear e1
    go_loopw [5] (fun i wr => ∃ k : Nat, k ≤ a.length ∧ i = .int .i64 k ∧ a.take k = b.take k ∧ Below w.heap.size w wr) (fun i _ => a.length - (intOf i).toNat)
    case atStart => exact ⟨0, Nat.zero_le _, rfl, by simp, Below.refl _ _⟩
    case round =>
      obtain ⟨k, hk, rfl, htk, hbel⟩ := hrel
      by_cases hlt : k < a.length
      · have hlb : k < b.length := by rw [← HL.out]; exact hlt
        have hka : (k : Int) < (a.length : Int) := by omega
        have hkb : (k : Int) < (b.length : Int) := by omega
        obtain ⟨ba, oa, c1, e1, x1⟩ := (HA.out.1.below hbel).at hlt
        obtain ⟨bb, ob, c2, e2, x2⟩ := (HA.out.2.below hbel).at hlb
        simp only [Value.slice.injEq] at e1 e2
        obtain ⟨rfl, -, rfl⟩ := e1
        obtain ⟨rfl, -, rfl⟩ := e2
        have l1 := cell_lt x1
        have l2 := cell_lt x2
        have hta : a.take (k + 1) = a.take k ++ [a[k]] := List.take_succ_eq_append_getElem hlt
        have htb : b.take (k + 1) = b.take k ++ [b[k]] := List.take_succ_eq_append_getElem hlb
        have hne : a[k] ≠ b[k] → a ≠ b := fun h e => h (by subst e; rfl)
        generalize a[k] = x at x1 hta hne
        generalize b[k] = y at x2 htb hne
        have HH := Lib.hid (⟨hta, htb, hne, htk, hbel, hlt⟩ : _ ∧ _ ∧ _ ∧ _ ∧ _ ∧ _)
        clear hta htb hne htk hbel hlt hlb
        by_cases hxy : x = y
        · have e3 : (x != y) = false := by simp [hxy]
          have HXY := Lib.hid hxy
          clear hxy
          go_wp2_with fail
          (refine wp_region_mix [0, 1, 2, 3, 4, 5, 6, 7, 8] [(true, true), (true, true), (true, true), (true, false), (true, true), (true, true), (true, true), (true, false), (true, true)] [0, 0, 3, 7, 0, 0, 48, 112, 255] _ (by kernel_rfl) (by kernel_rfl) (rfl : _ = _) ?_; simp only [pickL, List.map_cons, List.map_nil, List.getD_cons_succ, List.getD_cons_zero])
          (repeat (first | (refine mix_pure (fun hne K hK => ?_); go_simp; refine hK _ ?_; clear hK K hne) | (refine mix_load ?_ (fun K hK => ?_); (focus (first | rfl | (go_simp; done))); go_simp; refine hK _ ?_; clear hK K) | (refine mix_skip ?_ (fun K hK => ?_); (focus (first | rfl | (go_simp; done))); go_simp; refine hK _ ?_; clear hK K)))
          refine mix_done ?_
          clear x1 x2
          go_wp2_with fail
          obtain ⟨hta, htb, hne, htk, hbel, hlt⟩ := HH.out
          go_roundw
          case rel => exact ⟨k + 1, hlt, by go_num, by rw [hta, htb, htk, HXY.out], hbel.drew⟩
          case measure => simp [intOf]; omega
        · have e3 : (x != y) = true := by simp [hxy]
          have HE := Lib.hid (HF.out false wr.drew (decide_eq_false (HH.out.2.2.1 hxy)).symm HH.out.2.2.2.2.1.drew)
          clear hxy HH
          go_wp2_with fail
          (refine wp_region_mix [0, 1, 2, 3, 4, 5, 6, 7, 8] [(true, true), (true, true), (true, true), (true, false), (true, true), (true, true), (true, true), (true, false), (true, true)] [0, 0, 3, 7, 0, 0, 48, 112, 255] _ (by kernel_rfl) (by kernel_rfl) (rfl : _ = _) ?_; simp only [pickL, List.map_cons, List.map_nil, List.getD_cons_succ, List.getD_cons_zero])
          (repeat (first | (refine mix_pure (fun hne K hK => ?_); go_simp; refine hK _ ?_; clear hK K hne) | (refine mix_load ?_ (fun K hK => ?_); (focus (first | rfl | (go_simp; done))); go_simp; refine hK _ ?_; clear hK K) | (refine mix_skip ?_ (fun K hK => ?_); (focus (first | rfl | (go_simp; done))); go_simp; refine hK _ ?_; clear hK K)))
          refine mix_done ?_
          clear x1 x2
          go_wp2_with fail
          exact HE.out
      · obtain rfl : k = a.length := by omega
        have hab : a = b := by
          rw [List.take_length, HL.out, List.take_length] at htk
          exact htk
        have HE := Lib.hid (HF.out true wr (decide_eq_true hab).symm hbel)
        clear htk hbel hab
        go_wp2_with fail
        exact HE.out

theorem RTabAt.drew {w : World} {R : RTb} {v : Value} (h : RTabAt w R v) : RTabAt w.drew R v := h.below (Below.refl _ _).drew
def sameR (A B : RTb) : Bool := decide (A.seq = B.seq) && (decide (A.place = B.place) && (decide (A.spare = B.spare) && (decide (A.tabs = B.tabs) || decide (A.place.length + B.place.length = 0))))
end Go.Proofs.Ytogejjbclimjjaa
