/- remap.Table.Take. -/
--only r2
import Derived.Test.YtogejjbclimjjaaTabDec
import Derived.Test.YtogejjbclimjjaaBorn
import Derived.Test.YtogejjbclimjjaaChain
import Derived.Laws.OwnMore
namespace Go.Proofs.Ytogejjbclimjjaa
set_option linter.unusedVariables false
set_option linter.unusedSimpArgs false
open Go.RowKit

/-- may a block be taken for this one? -/
def Tb.mayTake (T : Tb) (v : Int) : Prop := 0 < T.spare.length ∧ -2 ≤ v ∧ v < T.place.length
instance (T : Tb) (v : Int) : Decidable (T.mayTake v) := by unfold Tb.mayTake; infer_instance
/-- the table then -/
def Tb.took (T : Tb) (v : Int) : Tb :=
  if v = -1 then { T with spare := T.spare.tail, t0 := T.spare.headD 0 }
  else if v = -2 then { T with spare := T.spare.tail, t1 := T.spare.headD 0 }
  else { T with spare := T.spare.tail, place := T.place.set v.toNat (T.spare.headD 0) }
/-- the block that it was -/
def Tb.was (T : Tb) (v : Int) : Int := if v = -1 then T.t0 else if v = -2 then T.t1 else T.place.getD v.toNat 0
def TakeEnds (T : Tb) (v : Int) (w : World) (e : Ending) (w' : World) : Prop :=
  Below w.heap.size w w' ∧ (T.mayTake v ∧ (∃ vp vs, e = .returned (.tuple #[tabV (T.took v) vp vs, .int .i64 (T.was v), .int .i64 0]) ∧ TabAt w' (T.took v) vp vs ∧ Fresh w.heap.size vp ∧ Fresh w.heap.size vs) ∨ ¬ T.mayTake v ∧ ∃ vp vs, e = .returned (.tuple #[tabV T vp vs, .int .i64 0, .int .i64 70]) ∧ TabAt w' T vp vs)

set_option maxRecDepth 100000 in
set_option maxHeartbeats 1000000 in
theorem take_no (T : Tb) (vp vs : Value) (v : Int) (w : World) (hT : TabAt w T vp vs) (hv : I64 v) (hno : ¬ T.mayTake v) :
    Calls Try.prog 36 #[tabV T vp vs, .int .i64 v] w (TakeEnds T v w) := by
  obtain ⟨ap, cp, rfl, hp1, hp2⟩ := hT.p.form
  obtain ⟨ax, cx, rfl, hq1, hq2⟩ := hT.s.form
  have hfin : ∀ w', Below w.heap.size w w' → TakeEnds T v w (.returned (.tuple #[.agg (T.cells (.slice ap T.place.length cp) (.slice ax T.spare.length cx)), .int .i64 0, .int .i64 70])) w' := fun w' hb => ⟨hb, .inr ⟨hno, _, _, rfl, hT.below hb⟩⟩
  generalize TakeEnds T v w = Post at hfin ⊢
  have HF := Lib.hid hfin
  obtain ⟨q, hq⟩ : ∃ q, q = w.heap.size := ⟨_, rfl⟩
  obtain ⟨w2, hw2⟩ : ∃ w2, w2 = (w.alloc (.cells (T.cells (.slice ap T.place.length cp) (.slice ax T.spare.length cx)) 57)).alloc (.cells #[.int .u32 0, .slice none 0 0, .slice none 0 0, .int .i64 0, .int .i64 0] 57) := ⟨_, rfl⟩
  have hb2 : Below w.heap.size w w2 := by rw [hw2]; exact ((Below.refl w.heap.size w).alloc (Nat.le_refl _) _).alloc (by simp) _
  have g0 : w2.heap[q]? = some (.cells (T.cells (.slice ap T.place.length cp) (.slice ax T.spare.length cx)) 57 (0, 0)) := by rw [hw2]; exact heap_old _ (heap_is hq)
  have g1 : w2.heap[q + 1]? = some (.cells #[.int .u32 0, .slice none 0 0, .slice none 0 0, .int .i64 0, .int .i64 0] 57 (0, 0)) := by rw [hw2]; exact heap_is (by simp [hq])
  unfold Tb.cells at hw2 g0 HF
  have HW := Lib.hid hw2
  unfold tabV Tb.cells
  have hbad : T.spare.length = 0 ∨ (T.spare.length ≠ 0 ∧ v < -2) ∨ (T.spare.length ≠ 0 ∧ ¬ v < -2 ∧ (T.place.length : Int) ≤ v) := by unfold Tb.mayTake at hno; omega
  have c0 := cells_at g0 0 _ rfl
  have c1 := cells_at g0 1 _ rfl
  have c2 := cells_at g0 2 _ rfl
  have c3 := cells_at g0 3 _ rfl
  have c4 := cells_at g0 4 _ rfl
  have f0 := froz_at g1 0
  have f1 := froz_at g1 1
  have f2 := froz_at g1 2
  have f3 := froz_at g1 3
  have f4 := froz_at g1 4
  have e0 := cells_at g1 0 _ rfl
  have e1 := cells_at g1 1 _ rfl
  have e2 := cells_at g1 2 _ rfl
  have e3 := cells_at g1 3 _ rfl
  have e4 := cells_at g1 4 _ rfl
  simp only [List.getElem_toArray, List.getElem_cons_succ, List.getElem_cons_zero] at c0 c1 c2 c3 c4 e0 e1 e2 e3 e4
  have hl0 := heap_lt g0
  have hl1 := heap_lt g1
  have hX := HF.out _ (put5 hb2 (q + 1) (.int .u32 T.seq) (.slice ap T.place.length cp) (.slice ax T.spare.length cx) (.int .i64 T.t0) (.int .i64 T.t1) (by omega))
  have hR := set5 (.int .u32 T.seq) (.slice ap T.place.length cp) (.slice ax T.spare.length cx) (.int .i64 T.t0) (.int .i64 T.t1) g1
  have HX := Lib.hid (⟨hX, hR⟩ : _ ∧ _)
  have HQ := Lib.hid hq
  clear hX hR hT hfin hno hw2 g0 g1 hb2
  rcases hbad with h | ⟨h, h1⟩ | ⟨h, h1, h2⟩
  · have ee : ((T.spare.length : Int) == 0) = true := by simp [h]
    clear h
    go_enter Try.func36, Try.ntmps36
    go_upto_region 1 with (fail)
    rw [← HW.out, ← hq]
    clear hq
    go_wp2_with fail
    refine bodyPost_ret (res_ctt rfl rfl HX.out.2 Try.underlying57 rfl (by kernel_rfl)) rfl HX.out.1
  · have ee : ((T.spare.length : Int) == 0) = false := by rw [beq_eq_false_iff_ne]; omega
    clear h
    go_enter Try.func36, Try.ntmps36
    go_upto_region 1 with (fail)
    rw [← HW.out, ← hq]
    clear hq
    go_wp2_with fail
    refine bodyPost_ret (res_ctt rfl rfl HX.out.2 Try.underlying57 rfl (by kernel_rfl)) rfl HX.out.1
  · have ee : ((T.spare.length : Int) == 0) = false := by rw [beq_eq_false_iff_ne]; omega
    have e5 : decide (v < -2) = false := by simp; omega
    clear h
    go_enter Try.func36, Try.ntmps36
    go_upto_region 1 with (fail)
    rw [← HW.out, ← hq]
    clear hq
    go_wp2_with fail
    refine bodyPost_ret (res_ctt rfl rfl HX.out.2 Try.underlying57 rfl (by kernel_rfl)) rfl HX.out.1

theorem own_ne {w : World} {base n : Nat} {v : Value} {xs : List Value} {nb : Nat} {cs : Array Value} {t e : TypeId} (h : w.ownsRow base e 1 v n xs) (hb : w.heap[nb]? = some (.cells cs t (0, 0))) (ht : t ≠ e) : v.ownBlock ≠ some nb := fun hv => by
  rcases h.2 with ⟨rfl, _⟩ | ⟨g, cap, cur, rfl, hgb, hgg, hnc, hcm, hcs, htk⟩
  · simp [Value.ownBlock] at hv
  · simp only [Value.ownBlock, Option.some.injEq] at hv
    subst hv
    rw [hb] at hgg
    simp only [Option.some.injEq, Obj.cells.injEq] at hgg
    exact ht hgg.2.1

/-- the end of Take: the table stands in its result -/
theorem took_end {T' : Tb} {w wy : World} {q B0 : Nat} {V4 V8 : Value} (hq : q = w.heap.size) (hBw : Below w.heap.size w wy) (hg1 : wy.heap[q + 1]? = some (.cells #[.int .u32 0, .slice none 0 0, .slice none 0 0, .int .i64 0, .int .i64 0] 57 (0, 0)))
    (ho4 : wy.ownsRow B0 3 1 V4 T'.place.length (T'.place.map i64v)) (ho8 : wy.ownsRow B0 3 1 V8 T'.spare.length (T'.spare.map i64v)) (hB : q + 1 < B0) (hs : T'.seq < 4294967296) :
    (TabAt (((((wy.setCell ⟨q + 1, 0, none⟩ (.int .u32 T'.seq)).setCell ⟨q + 1, 1, none⟩ V4).setCell ⟨q + 1, 2, none⟩ V8).setCell ⟨q + 1, 3, none⟩ (.int .i64 T'.t0)).setCell ⟨q + 1, 4, none⟩ (.int .i64 T'.t1)) T' V4 V8 ∧ Fresh w.heap.size V4 ∧ Fresh w.heap.size V8)
    ∧ Below w.heap.size w (((((wy.setCell ⟨q + 1, 0, none⟩ (.int .u32 T'.seq)).setCell ⟨q + 1, 1, none⟩ V4).setCell ⟨q + 1, 2, none⟩ V8).setCell ⟨q + 1, 3, none⟩ (.int .i64 T'.t0)).setCell ⟨q + 1, 4, none⟩ (.int .i64 T'.t1))
    ∧ (((((wy.setCell ⟨q + 1, 0, none⟩ (.int .u32 T'.seq)).setCell ⟨q + 1, 1, none⟩ V4).setCell ⟨q + 1, 2, none⟩ V8).setCell ⟨q + 1, 3, none⟩ (.int .i64 T'.t0)).setCell ⟨q + 1, 4, none⟩ (.int .i64 T'.t1)).heap[q + 1]? = some (.cells (T'.cells V4 V8) 57 (0, 0)) := by
  have hon : Only (fun x => x = q + 1) wy (((((wy.setCell ⟨q + 1, 0, none⟩ (.int .u32 T'.seq)).setCell ⟨q + 1, 1, none⟩ V4).setCell ⟨q + 1, 2, none⟩ V8).setCell ⟨q + 1, 3, none⟩ (.int .i64 T'.t0)).setCell ⟨q + 1, 4, none⟩ (.int .i64 T'.t1)) :=
    ((((Only.of_set wy ⟨q + 1, 0, none⟩ (.int .u32 T'.seq)).set ⟨q + 1, 1, none⟩ V4 fun _ => rfl).set ⟨q + 1, 2, none⟩ V8 fun _ => rfl).set ⟨q + 1, 3, none⟩ (.int .i64 T'.t0) fun _ => rfl).set ⟨q + 1, 4, none⟩ (.int .i64 T'.t1) fun _ => rfl
  exact ⟨⟨⟨RV.own (own_only ho4 hon fun x hx e => by have := (ho4.lt x hx).1; omega), RV.own (own_only ho8 hon fun x hx e => by have := (ho8.lt x hx).1; omega), hs⟩, Fresh.own ho4 (by omega), Fresh.own ho8 (by omega)⟩, put5 hBw (q + 1) _ _ _ _ _ (by omega), set5 _ _ _ _ _ hg1⟩

set_option maxRecDepth 100000 in
set_option maxHeartbeats 1000000 in
theorem take_yes (T : Tb) (vp vs : Value) (v : Int) (w : World) (hT : TabAt w T vp vs) (hv : I64 v) (hyes : T.mayTake v) (hpl : T.place.length ≤ 1000) (hsl : T.spare.length ≤ 1000) :
    Calls Try.prog 36 #[tabV T vp vs, .int .i64 v] w (TakeEnds T v w) := by
  obtain ⟨i, hi, hz0, hz1, hz2⟩ := info_parts infoI64
  obtain ⟨ap, cp, rfl, hp1, hp2⟩ := hT.p.form
  obtain ⟨ax, cx, rfl, hq1, hq2⟩ := hT.s.form
  have hfin : ∀ vp vs w', (TabAt w' (T.took v) vp vs ∧ Fresh w.heap.size vp ∧ Fresh w.heap.size vs) → Below w.heap.size w w' → TakeEnds T v w (.returned (.tuple #[.agg ((T.took v).cells vp vs), .int .i64 (T.was v), .int .i64 0])) w' := fun vp vs w' h hb => ⟨hb, .inl ⟨hyes, _, _, rfl, h⟩⟩
  generalize TakeEnds T v w = Post at hfin ⊢
  have HF := Lib.hid hfin
  obtain ⟨m1, m2, m3⟩ := hyes
  obtain ⟨q, hq⟩ : ∃ q, q = w.heap.size := ⟨_, rfl⟩
  obtain ⟨w2, hw2⟩ : ∃ w2, w2 = (w.alloc (.cells (T.cells (.slice ap T.place.length cp) (.slice ax T.spare.length cx)) 57)).alloc (.cells #[.int .u32 0, .slice none 0 0, .slice none 0 0, .int .i64 0, .int .i64 0] 57) := ⟨_, rfl⟩
  have hb2 : Below w.heap.size w w2 := by rw [hw2]; exact ((Below.refl w.heap.size w).alloc (Nat.le_refl _) _).alloc (by simp) _
  have g0 : w2.heap[q]? = some (.cells (T.cells (.slice ap T.place.length cp) (.slice ax T.spare.length cx)) 57 (0, 0)) := by rw [hw2]; exact heap_old _ (heap_is hq)
  have g1 : w2.heap[q + 1]? = some (.cells #[.int .u32 0, .slice none 0 0, .slice none 0 0, .int .i64 0, .int .i64 0] 57 (0, 0)) := by rw [hw2]; exact heap_is (by simp [hq])
  unfold Tb.cells at hw2 g0
  have HW := Lib.hid hw2
  unfold tabV Tb.cells
  have ee : ((T.spare.length : Int) == 0) = false := by rw [beq_eq_false_iff_ne]; omega
  have e5 : decide (v < -2) = false := by simp; omega
  have e6 : decide ((T.place.length : Int) ≤ v) = false := by simp; omega
  have c0 := cells_at g0 0 _ rfl
  have c1 := cells_at g0 1 _ rfl
  have c2 := cells_at g0 2 _ rfl
  simp only [List.getElem_toArray, List.getElem_cons_succ, List.getElem_cons_zero] at c0 c1 c2
  have hl0 := heap_lt g0
  obtain ⟨B0, hB0⟩ : ∃ B0, B0 = w2.heap.size := ⟨_, rfl⟩
  obtain ⟨K, hKd⟩ : ∃ K, K = [(q, Obj.cells #[.int .u32 T.seq, .slice ap T.place.length cp, .slice ax T.spare.length cx, .int .i64 T.t0, .int .i64 T.t1] 57 (0, 0))] := ⟨_, rfl⟩
  have hHeld : Held K w2 := fun x hx => by
    rw [hKd] at hx
    obtain rfl : x = _ := by simpa using hx
    exact g0
  have k0 : ∀ w', Held K w' → w'.cell? ⟨q, 0, none⟩ = some (.int .u32 T.seq) := fun w' h => h.cell (by rw [hKd]; exact List.mem_cons_self) 0 _ rfl
  have k1 : ∀ w', Held K w' → w'.cell? ⟨q, 1, none⟩ = some (.slice ap T.place.length cp) := fun w' h => h.cell (by rw [hKd]; exact List.mem_cons_self) 1 _ rfl
  have k2 : ∀ w', Held K w' → w'.cell? ⟨q, 2, none⟩ = some (.slice ax T.spare.length cx) := fun w' h => h.cell (by rw [hKd]; exact List.mem_cons_self) 2 _ rfl
  have k3 : ∀ w', Held K w' → w'.cell? ⟨q, 3, none⟩ = some (.int .i64 T.t0) := fun w' h => h.cell (by rw [hKd]; exact List.mem_cons_self) 3 _ rfl
  have k4 : ∀ w', Held K w' → w'.cell? ⟨q, 4, none⟩ = some (.int .i64 T.t1) := fun w' h => h.cell (by rw [hKd]; exact List.mem_cons_self) 4 _ rfl
  have hA : BornA K B0 (fun w' => Below w2.heap.size w2 w') (fun b => b < B0) w2.drew := ⟨hHeld.below (Below.refl _ _).drew, rfl, by rw [hB0]; exact Nat.le_refl _, (Below.refl _ _).drew⟩
  have hgood : Good (Held K) (BornA K B0 (fun w' => Below w2.heap.size w2 w')) := BornA.good fun w' o h1 h2 => h2.alloc h2.size o
  have hsl1 : ∀ w, (Instr.sliceAt 22 (.slice ax T.spare.length cx) (some (.int .i64 1)) none none).run Try.prog w = .ok (cutV ax cx 1 T.spare.length) w := fun w => run_cut_from Try.underlying22 hi hz1 ax T.spare.length cx 1 (by omega) w
  have H0 := Lib.hid (⟨hT, hb2, hq, hB0, g1, hKd⟩ : _ ∧ _ ∧ _ ∧ _ ∧ _ ∧ _)
  clear hT hfin hw2 g0 g1 hb2 hB0 hHeld hKd
  go_enter Try.func36, Try.ntmps36
  go_upto_region 1 with (fail)
  rw [← HW.out, ← hq]
  clear hq
  go_upto_region 3 with (fail)
  clear c0 c1 c2 hl0 ee e5 e6
  (refine wp_region_born [.soft 0, .soft 1, .soft 2, .soft 3, .soft 5, .soft 6, .soft 7, .soft 9, .soft 10, .ann 12, .hard 4, .hard 8, .soft 11, .take 12, .hard 13] [(true, true), (true, false), (true, true), (true, false), (false, false), (true, true), (true, false), (true, true), (false, false), (true, true), (true, false), (true, true), (false, false), (false, false)] [0, 1, 0, 4, 12, 0, 32, 96, 252, 0, 512, 2047, 0, 8191] (Held K) (BornA K B0 (fun w' => Below w2.heap.size w2 w')) (fun b => b < B0) (by kernel_rfl) (by kernel_rfl) ?_ ?_ ?_)
  · exact hgood
  · exact hA
  clear hA hgood
  iterate 9 (first | (refine bx_pure rfl (fun KK hKK => ?_); go_simp; refine hKK _ ?_; clear hKK KK) | (refine bx_load rfl rfl ?_ (fun KK hKK => ?_); (focus (first | rfl | (go_simp; done))); apply Exists.intro; apply And.intro; (focus (intro w' hC; go_simp; exact rfl)); go_simp; refine hKK _ ?_; clear hKK KK) | (refine bx_skip rfl ?_ (fun KK hKK => ?_); (focus (first | rfl | (go_simp; done))); go_simp; refine hKK _ ?_; clear hKK KK))
  (apply bx_ann rfl; (focus (intro w n hL hn; go_simp; (first | exact ⟨rfl, rfl⟩ | exact rfl))))
  refine bx_one rfl (by first | rfl | (go_simp; done)) (fun G wc hA R hR hX => ?_)
  obtain ⟨hH, rfl, hsz, hbw⟩ := hA
  obtain ⟨hT, hb2, hq, hB0, g1, hKd⟩ := H0.out
  refine wpList_append_row rfl _ _ 22 rfl B0 3 i (.int .i64 0) 8 Try.underlying22 hi hz0 hz1 hz2 rfl (.slice none 0 0) 0 [] rfl (World.ownsRow_nil _ _ _ _) (.slice ap T.place.length cp) (T.place.map i64v) rfl (hT.p.below (hb2.trans (hbw.mono hb2.size))) (oneCell_i64 _) ?c1 ?c2 hsz ?_
  case c1 => simp only [maxLen, List.length_map]; omega
  case c2 => simp only [List.length_map]; omega
  intro v4 w4 hown4 hg4 hnew4
  simp only [Nat.zero_add, List.nil_append, List.length_map] at hown4
  obtain ⟨a4, n4, rfl⟩ := own_slice hown4
  have hb4 := below_grown_none hg4
  simp only [wpList]
  refine hR _ _ rfl ⟨BornA K B0 (fun w' => Below w2.heap.size w2 w' ∧ w'.ownsRow B0 3 1 (.slice a4 T.place.length n4) T.place.length (T.place.map i64v)), fun b => b < B0, BornA.good (fun w' o h1 h2 => ⟨h2.1.alloc h2.1.size o, h2.2.alloc o⟩), ⟨hH.below hb4, rfl, by have := hb4.size; omega, hbw.trans (hb4.mono hbw.size), hown4⟩, Only.new hb4 _, fun _ h => .inl h, ?_⟩
  clear hR hX R hown4 hg4 hnew4 hb4 hH hbw hsz hT hb2 hq hB0 g1 hKd
  refine bx_one rfl (by first | rfl | (go_simp; done)) (fun G wc hA R hR hX => ?_)
  obtain ⟨hH, rfl, hsz, hbw, hown4⟩ := hA
  obtain ⟨hT, hb2, hq, hB0, g1, hKd⟩ := H0.out
  have hcut : RV wc (cutV ax cx 1 T.spare.length) (T.spare.tail.map i64v) := by
    have := RV.cut (hT.s.below (hb2.trans (hbw.mono hb2.size))) (i := 1) (j := T.spare.length) (by omega) (by simp)
    have e : ((T.spare.map i64v).drop 1).take (T.spare.length - 1) = T.spare.tail.map i64v := by
      rw [List.take_of_length_le (by simp), List.drop_one, List.map_tail]
    rw [e] at this; exact this
  refine wpList_append_row rfl _ _ 22 rfl B0 3 i (.int .i64 0) 8 Try.underlying22 hi hz0 hz1 hz2 rfl (.slice none 0 0) 0 [] rfl (World.ownsRow_nil _ _ _ _) (cutV ax cx 1 T.spare.length) (T.spare.tail.map i64v) rfl hcut (oneCell_i64 _) ?c1 ?c2 hsz ?_
  case c1 => simp only [maxLen, List.length_map, List.length_tail]; omega
  case c2 => simp only [List.length_map, List.length_tail]; omega
  intro v8 w8 hown8 hg8 hnew8
  simp only [Nat.zero_add, List.nil_append, List.length_map, List.length_tail] at hown8
  obtain ⟨a8, n8, rfl⟩ := own_slice hown8
  have hb8 := below_grown_none hg8
  have hap : ∀ g, (Value.slice a4 T.place.length n4).ownBlock = some g → (Value.slice a8 (T.spare.length - 1) n8).ownBlock ≠ some g := fun g h1 h2 => by
    rcases hnew8 g h2 with h | h
    · simp [Value.ownBlock] at h
    · have := (hown4.lt g h1).2; omega
  simp only [wpList]
  refine hR _ _ rfl ⟨BornA K B0 (fun w' => Below w2.heap.size w2 w' ∧ w'.ownsRow B0 3 1 (.slice a4 T.place.length n4) T.place.length (T.place.map i64v) ∧ w'.ownsRow B0 3 1 (.slice a8 (T.spare.length - 1) n8) (T.spare.length - 1) (T.spare.tail.map i64v) ∧ ∀ g, (Value.slice a4 T.place.length n4).ownBlock = some g → (Value.slice a8 (T.spare.length - 1) n8).ownBlock ≠ some g), fun b => b < B0, BornA.good (fun w' o h1 h2 => ⟨h2.1.alloc h2.1.size o, h2.2.1.alloc o, h2.2.2.1.alloc o, h2.2.2.2⟩), ⟨hH.below hb8, rfl, by have := hb8.size; omega, hbw.trans (hb8.mono hbw.size), own_only hown4 (Only.new hb8 fun _ => False) (fun _ _ => id), hown8, hap⟩, Only.new hb8 _, fun _ h => .inl h, ?_⟩
  clear hR hX R hown4 hg8 hnew8 hb8 hH hbw hsz hT hb2 hq hB0 g1 hKd hown8 hap hcut
  (first | (refine bx_pure rfl (fun KK hKK => ?_); go_simp; refine hKK _ ?_; clear hKK KK) | (refine bx_load rfl rfl ?_ (fun KK hKK => ?_); (focus (first | rfl | (go_simp; done))); apply Exists.intro; apply And.intro; (focus (intro w' hC; go_simp; exact rfl)); go_simp; refine hKK _ ?_; clear hKK KK) | (refine bx_skip rfl ?_ (fun KK hKK => ?_); (focus (first | rfl | (go_simp; done))); go_simp; refine hKK _ ?_; clear hKK KK))
  (refine bx_take rfl rfl (fun nb KK hKK => ?_); go_simp; refine hKK _ ?_; clear hKK KK)
  refine bx_last rfl rfl (by first | rfl | (go_simp; done)) (fun G wc hA R hR hX => ?_)
  obtain ⟨⟨hH, rfl, hsz, hbw, hown4, hown8, hap⟩, hnb, hnG⟩ := hA
  have n0 := cells_at hnb 0 _ rfl
  have n1 := cells_at hnb 1 _ rfl
  have n2 := cells_at hnb 2 _ rfl
  have n3 := cells_at hnb 3 _ rfl
  have n4' := cells_at hnb 4 _ rfl
  have f0 := froz_at hnb 0
  have f1 := froz_at hnb 1
  have f2 := froz_at hnb 2
  have f3 := froz_at hnb 3
  have f4 := froz_at hnb 4
  simp only [List.getElem_toArray, List.getElem_cons_succ, List.getElem_cons_zero] at n0 n1 n2 n3 n4'
  have hlnb := heap_lt hnb
  have hset := set5 (.int .u32 T.seq) (.slice a4 T.place.length n4) (.slice a8 (T.spare.length - 1) n8) (.int .i64 T.t0) (.int .i64 T.t1) hnb
  obtain ⟨hT, hb2, hq, hB0, g1, hKd⟩ := H0.out
  have hnb0 : B0 ≤ nb := by have : ¬ nb < B0 := hnG; omega
  have hbw2 := put5 hbw nb (.int .u32 T.seq) (.slice a4 T.place.length n4) (.slice a8 (T.spare.length - 1) n8) (.int .i64 T.t0) (.int .i64 T.t1) (by omega)
  have hon : Only (fun x => x = nb) wc (((((wc.setCell ⟨nb, 0, none⟩ (.int .u32 T.seq)).setCell ⟨nb, 1, none⟩ (.slice a4 T.place.length n4)).setCell ⟨nb, 2, none⟩ (.slice a8 (T.spare.length - 1) n8)).setCell ⟨nb, 3, none⟩ (.int .i64 T.t0)).setCell ⟨nb, 4, none⟩ (.int .i64 T.t1)) :=
    ((((Only.of_set wc ⟨nb, 0, none⟩ (.int .u32 T.seq)).set ⟨nb, 1, none⟩ (.slice a4 T.place.length n4) fun _ => rfl).set ⟨nb, 2, none⟩ (.slice a8 (T.spare.length - 1) n8) fun _ => rfl).set ⟨nb, 3, none⟩ (.int .i64 T.t0) fun _ => rfl).set ⟨nb, 4, none⟩ (.int .i64 T.t1) fun _ => rfl
  have ho4 := own_only hown4 hon (fun b hb e => own_ne hown4 hnb (by decide) (by rw [← e]; exact hb))
  have ho8 := own_only hown8 hon (fun b hb e => own_ne hown8 hnb (by decide) (by rw [← e]; exact hb))
  have hH2 := hH.only hon (fun x hx e => by rw [hKd] at hx; obtain rfl : x = _ := (by simpa using hx); have e : q = nb := e; have := heap_lt g1; omega)
  have H13 := Lib.hid (⟨hset, hbw2, ho4, ho8, hH2, hnb0⟩ : _ ∧ _ ∧ _ ∧ _ ∧ _ ∧ _)
  clear hset hbw2 ho4 ho8 hH2 hon hown4 hown8 hbw hH hnb hnG hsz hT hb2 hq hB0 g1 hKd hnb0 k0 k1 k2 k3 k4 hsl1
  go_wp2_with fail
  obtain ⟨hset, hbw2, ho4, ho8, hH2, hnb0⟩ := H13.out
  (try simp only [wpList])
  refine hR _ _ rfl ⟨FinA K (fun w' => w'.heap[nb]? = some (.cells #[.int .u32 T.seq, .slice a4 T.place.length n4, .slice a8 (T.spare.length - 1) n8, .int .i64 T.t0, .int .i64 T.t1] 57 (0, 0)) ∧ Below w2.heap.size w2 w' ∧ w'.ownsRow B0 3 1 (.slice a4 T.place.length n4) T.place.length (T.place.map i64v) ∧ w'.ownsRow B0 3 1 (.slice a8 (T.spare.length - 1) n8) (T.spare.length - 1) (T.spare.tail.map i64v)), fun _ => False, FinA.good (fun w' o h => ⟨heap_old _ h.1, h.2.1.alloc h.2.1.size o, h.2.2.1.alloc o, h.2.2.2.alloc o⟩), ⟨hH2, fun _ => id, hset, hbw2, ho4, ho8⟩, fun _ h => h.elim, ?_⟩
  clear hR hX R n0 n1 n2 n3 n4' f0 f1 f2 f3 f4 hlnb hset hbw2 ho4 ho8 hH2
  refine bx_done (fun G wz hz => ?_)
  obtain ⟨hH, -, hset, hbw, ho4, ho8⟩ := hz
  obtain ⟨hT, hb2, hq, hB0, g1, hKd⟩ := H0.out
  have hBw := hb2.trans (hbw.mono hb2.size)
  have hTz := hT.below hBw
  have hg1 := heap_keep hbw g1
  have hqs := hH (q, Obj.cells #[.int .u32 T.seq, .slice ap T.place.length cp, .slice ax T.spare.length cx, .int .i64 T.t0, .int .i64 T.t1] 57 (0, 0)) (by rw [hKd]; exact List.mem_cons_self)
  have s2 := cells_at hqs 2 _ rfl
  simp only [List.getElem_toArray, List.getElem_cons_succ, List.getElem_cons_zero] at s2
  have hlqs := heap_lt hqs
  obtain ⟨sb, so, sc, hse, hsc⟩ := hTz.s.at m1
  simp only [Value.slice.injEq] at hse
  obtain ⟨rfl, -, rfl⟩ := hse
  have hlsb := cell_lt hsc
  have hs0 : T.spare.headD 0 = T.spare[0] := by rw [List.headD_eq_head?_getD, List.head?_eq_getElem?, List.getElem?_eq_getElem m1]; rfl
  rw [← hs0, Nat.add_zero] at hsc
  obtain ⟨s0, hs0e⟩ : ∃ s0, s0 = T.spare.headD 0 := ⟨_, rfl⟩
  rw [← hs0e] at hsc
  have n0 := cells_at hset 0 _ rfl
  have n1 := cells_at hset 1 _ rfl
  have n2 := cells_at hset 2 _ rfl
  have n3 := cells_at hset 3 _ rfl
  have n4' := cells_at hset 4 _ rfl
  have f3 := froz_at hset 3
  have f4 := froz_at hset 4
  simp only [List.getElem_toArray, List.getElem_cons_succ, List.getElem_cons_zero] at n0 n1 n2 n3 n4'
  have hlnb := heap_lt hset
  have HS0 := Lib.hid hs0e
  have HZ := Lib.hid (⟨hset, hbw, ho4, ho8, hBw, hg1, hT.seq⟩ : _ ∧ _ ∧ _ ∧ _ ∧ _ ∧ _ ∧ _)
  have HNB := Lib.hid (⟨H13.out.2.2.2.2.2, hB0, hq, hb2.size⟩ : _ ∧ _ ∧ _ ∧ _)
  have HG1 := Lib.hid (heap_lt g1)
  have hsp1 : 0 < (T.spare.length : Int) := by omega
  clear hset hbw ho4 ho8 hBw hg1 hT hb2 hq hB0 g1 hKd hqs hTz hs0 hs0e hH H13 H0
  by_cases hv0 : v < 0
  · have : v = -1 ∨ v = -2 := by omega
    rcases this with rfl | rfl
    · have ew : IntKind.i64.wrap 0 = 0 := rfl
      obtain ⟨hset, hbw, ho4, ho8, hBw, hg1, hsq⟩ := HZ.out
      obtain ⟨hnb0, hB0, hq, hbs⟩ := HNB.out
      have hq1 : q + 1 < B0 := by have := HG1.out; omega
      have hon : Only (fun x => x = nb) wz (wz.setCell ⟨nb, 3, none⟩ (.int .i64 s0)).drew := (Only.of_set wz ⟨nb, 3, none⟩ (.int .i64 s0)).drew
      have hset2 : (wz.setCell ⟨nb, 3, none⟩ (.int .i64 s0)).drew.heap[nb]? = some (.cells #[.int .u32 T.seq, .slice a4 T.place.length n4, .slice a8 (T.spare.length - 1) n8, .int .i64 s0, .int .i64 T.t1] 57 (0, 0)) := by
        have := set_at (o := 3) hset (.int .i64 s0)
        simp only [List.setIfInBounds_toArray, List.set_cons_zero, List.set_cons_succ] at this
        exact this
      have o4 := own_only ho4 hon (fun b hb e => own_ne ho4 hset (by decide) (by rw [← e]; exact hb))
      have o8 := own_only ho8 hon (fun b hb e => own_ne ho8 hset (by decide) (by rw [← e]; exact hb))
      have htk : T.took (-1) = { T with spare := T.spare.tail, t0 := s0 } := by unfold Tb.took; rw [if_pos rfl]; rw [HS0.out]
      have hws : T.was (-1) = T.t0 := by unfold Tb.was; rw [if_pos rfl]
      have hBy : Below w.heap.size w (wz.setCell ⟨nb, 3, none⟩ (.int .i64 s0)).drew := (hBw.setCell (by show w.heap.size ≤ nb; omega) _).drew
      have hend := took_end (T' := T.took (-1)) (B0 := B0) hq hBy (hon.at hg1 (by omega)) (V4 := .slice a4 T.place.length n4) (V8 := .slice a8 (T.spare.length - 1) n8) (by rw [htk]; exact o4) (by rw [htk]; show World.ownsRow _ _ _ _ _ T.spare.tail.length _; rw [List.length_tail]; exact o8) hq1 (by rw [htk]; exact hsq)
      have hfin := HF.out _ _ _ hend.1 hend.2.1
      have hR := hend.2.2
      rw [hws] at hfin
      rw [htk] at hfin hR
      unfold Tb.cells at hfin hR
      have d0 := cells_at hset2 0 _ rfl
      have d1 := cells_at hset2 1 _ rfl
      have d2 := cells_at hset2 2 _ rfl
      have d3 := cells_at hset2 3 _ rfl
      have d4 := cells_at hset2 4 _ rfl
      have hgy := hon.at hg1 (by omega)
      have e0 := cells_at hgy 0 _ rfl
      have e1 := cells_at hgy 1 _ rfl
      have e2 := cells_at hgy 2 _ rfl
      have e3 := cells_at hgy 3 _ rfl
      have e4 := cells_at hgy 4 _ rfl
      have z0 := froz_at hgy 0
      have z1 := froz_at hgy 1
      have z2 := froz_at hgy 2
      have z3 := froz_at hgy 3
      have z4 := froz_at hgy 4
      simp only [List.getElem_toArray, List.getElem_cons_succ, List.getElem_cons_zero] at d0 d1 d2 d3 d4 e0 e1 e2 e3 e4
      have hly := heap_lt hset2
      have hlg := heap_lt hgy
      have HX := Lib.hid (⟨hfin, hR⟩ : _ ∧ _)
      have HD := Lib.hid (⟨d0, d1, d2, d3, d4, e0, e1, e2, e3, e4, z0, z1, z2, z3, z4, hly, hlg⟩ : _ ∧ _ ∧ _ ∧ _ ∧ _ ∧ _ ∧ _ ∧ _ ∧ _ ∧ _ ∧ _ ∧ _ ∧ _ ∧ _ ∧ _ ∧ _ ∧ _)
      clear hset hbw ho4 ho8 hBw hg1 hsq hnb0 hB0 hq hbs hq1 hon hset2 o4 o8 htk hws hBy hend hfin hR d0 d1 d2 d3 d4 hgy e0 e1 e2 e3 e4 z0 z1 z2 z3 z4 hly hlg
      clear hv0 m2 m3 hv
      go_wp2_with fail
      (refine wp_region_mix [0, 1, 2, 3, 4, 5, 6, 7, 8, 9, 10, 11, 12, 13, 14] [(true, true), (true, true), (true, true), (true, true), (true, true), (true, true), (true, false), (true, true), (true, false), (true, true), (true, false), (true, true), (true, true), (true, true), (false, false)] [0, 1, 0, 4, 0, 28, 60, 0, 128, 384, 896, 124, 0, 8191, 16383] _ (by kernel_rfl) (by kernel_rfl) (rfl : _ = _) ?_; simp only [pickL, List.map_cons, List.map_nil, List.getD_cons_succ, List.getD_cons_zero])
      (repeat (first | (refine mix_pure (fun hne K hK => ?_); go_simp; refine hK _ ?_; clear hK K hne) | (refine mix_load ?_ (fun K hK => ?_); (focus (first | rfl | (go_simp; done))); go_simp; refine hK _ ?_; clear hK K) | (refine mix_skip ?_ (fun K hK => ?_); (focus (first | rfl | (go_simp; done))); go_simp; refine hK _ ?_; clear hK K)))
      (refine mix_one (by first | rfl | (go_simp; done)) (fun R hR hX => ?_))
      go_wp2_with fail
      ((try simp only [wpList]); refine hR _ _ rfl ⟨fun w' => w' = _, rfl, (fun h => by cases h), ?_⟩; clear hR hX R)
      refine mix_done ?_
      obtain ⟨d0, d1, d2, d3, d4, e0, e1, e2, e3, e4, z0, z1, z2, z3, z4, hly, hlg⟩ := HD.out
      clear n0 n1 n2 n3 n4' f3 f4 s2 hsc ew
      generalize (wz.setCell ⟨nb, 3, none⟩ (.int .i64 s0)).drew = wy at *
      go_wp2_with fail
      refine bodyPost_ret (res_ctt rfl rfl HX.out.2 Try.underlying57 rfl (by kernel_rfl)) rfl HX.out.1
    · have ew : IntKind.i64.wrap 1 = 1 := rfl
      obtain ⟨hset, hbw, ho4, ho8, hBw, hg1, hsq⟩ := HZ.out
      obtain ⟨hnb0, hB0, hq, hbs⟩ := HNB.out
      have hq1 : q + 1 < B0 := by have := HG1.out; omega
      have hon : Only (fun x => x = nb) wz (wz.setCell ⟨nb, 4, none⟩ (.int .i64 s0)).drew := (Only.of_set wz ⟨nb, 4, none⟩ (.int .i64 s0)).drew
      have hset2 : (wz.setCell ⟨nb, 4, none⟩ (.int .i64 s0)).drew.heap[nb]? = some (.cells #[.int .u32 T.seq, .slice a4 T.place.length n4, .slice a8 (T.spare.length - 1) n8, .int .i64 T.t0, .int .i64 s0] 57 (0, 0)) := by
        have := set_at (o := 4) hset (.int .i64 s0)
        simp only [List.setIfInBounds_toArray, List.set_cons_zero, List.set_cons_succ] at this
        exact this
      have o4 := own_only ho4 hon (fun b hb e => own_ne ho4 hset (by decide) (by rw [← e]; exact hb))
      have o8 := own_only ho8 hon (fun b hb e => own_ne ho8 hset (by decide) (by rw [← e]; exact hb))
      have htk : T.took (-2) = { T with spare := T.spare.tail, t1 := s0 } := by unfold Tb.took; rw [if_neg (by omega), if_pos rfl]; rw [HS0.out]
      have hws : T.was (-2) = T.t1 := by unfold Tb.was; rw [if_neg (by omega), if_pos rfl]
      have hBy : Below w.heap.size w (wz.setCell ⟨nb, 4, none⟩ (.int .i64 s0)).drew := (hBw.setCell (by show w.heap.size ≤ nb; omega) _).drew
      have hend := took_end (T' := T.took (-2)) (B0 := B0) hq hBy (hon.at hg1 (by omega)) (V4 := .slice a4 T.place.length n4) (V8 := .slice a8 (T.spare.length - 1) n8) (by rw [htk]; exact o4) (by rw [htk]; show World.ownsRow _ _ _ _ _ T.spare.tail.length _; rw [List.length_tail]; exact o8) hq1 (by rw [htk]; exact hsq)
      have hfin := HF.out _ _ _ hend.1 hend.2.1
      have hR := hend.2.2
      rw [hws] at hfin
      rw [htk] at hfin hR
      unfold Tb.cells at hfin hR
      have d0 := cells_at hset2 0 _ rfl
      have d1 := cells_at hset2 1 _ rfl
      have d2 := cells_at hset2 2 _ rfl
      have d3 := cells_at hset2 3 _ rfl
      have d4 := cells_at hset2 4 _ rfl
      have hgy := hon.at hg1 (by omega)
      have e0 := cells_at hgy 0 _ rfl
      have e1 := cells_at hgy 1 _ rfl
      have e2 := cells_at hgy 2 _ rfl
      have e3 := cells_at hgy 3 _ rfl
      have e4 := cells_at hgy 4 _ rfl
      have z0 := froz_at hgy 0
      have z1 := froz_at hgy 1
      have z2 := froz_at hgy 2
      have z3 := froz_at hgy 3
      have z4 := froz_at hgy 4
      simp only [List.getElem_toArray, List.getElem_cons_succ, List.getElem_cons_zero] at d0 d1 d2 d3 d4 e0 e1 e2 e3 e4
      have hly := heap_lt hset2
      have hlg := heap_lt hgy
      have HX := Lib.hid (⟨hfin, hR⟩ : _ ∧ _)
      have HD := Lib.hid (⟨d0, d1, d2, d3, d4, e0, e1, e2, e3, e4, z0, z1, z2, z3, z4, hly, hlg⟩ : _ ∧ _ ∧ _ ∧ _ ∧ _ ∧ _ ∧ _ ∧ _ ∧ _ ∧ _ ∧ _ ∧ _ ∧ _ ∧ _ ∧ _ ∧ _ ∧ _)
      clear hset hbw ho4 ho8 hBw hg1 hsq hnb0 hB0 hq hbs hq1 hon hset2 o4 o8 htk hws hBy hend hfin hR d0 d1 d2 d3 d4 hgy e0 e1 e2 e3 e4 z0 z1 z2 z3 z4 hly hlg
      clear hv0 m2 m3 hv
      go_wp2_with fail
      (refine wp_region_mix [0, 1, 2, 3, 4, 5, 6, 7, 8, 9, 10, 11, 12, 13, 14] [(true, true), (true, true), (true, true), (true, true), (true, true), (true, true), (true, false), (true, true), (true, false), (true, true), (true, false), (true, true), (true, true), (true, true), (false, false)] [0, 1, 0, 4, 0, 28, 60, 0, 128, 384, 896, 124, 0, 8191, 16383] _ (by kernel_rfl) (by kernel_rfl) (rfl : _ = _) ?_; simp only [pickL, List.map_cons, List.map_nil, List.getD_cons_succ, List.getD_cons_zero])
      (repeat (first | (refine mix_pure (fun hne K hK => ?_); go_simp; refine hK _ ?_; clear hK K hne) | (refine mix_load ?_ (fun K hK => ?_); (focus (first | rfl | (go_simp; done))); go_simp; refine hK _ ?_; clear hK K) | (refine mix_skip ?_ (fun K hK => ?_); (focus (first | rfl | (go_simp; done))); go_simp; refine hK _ ?_; clear hK K)))
      (refine mix_one (by first | rfl | (go_simp; done)) (fun R hR hX => ?_))
      go_wp2_with fail
      ((try simp only [wpList]); refine hR _ _ rfl ⟨fun w' => w' = _, rfl, (fun h => by cases h), ?_⟩; clear hR hX R)
      refine mix_done ?_
      obtain ⟨d0, d1, d2, d3, d4, e0, e1, e2, e3, e4, z0, z1, z2, z3, z4, hly, hlg⟩ := HD.out
      clear n0 n1 n2 n3 n4' f3 f4 s2 hsc ew
      generalize (wz.setCell ⟨nb, 4, none⟩ (.int .i64 s0)).drew = wy at *
      go_wp2_with fail
      refine bodyPost_ret (res_ctt rfl rfl HX.out.2 Try.underlying57 rfl (by kernel_rfl)) rfl HX.out.1
  · obtain ⟨n, rfl⟩ : ∃ n : Nat, v = n := ⟨v.toNat, by omega⟩
    have hnl : n < T.place.length := by omega
    have hnl' : (n : Int) < (T.place.length : Int) := by omega
    obtain ⟨hset, hbw, ho4, ho8, hBw, hg1, hsq⟩ := HZ.out
    obtain ⟨hnb0, hB0, hq, hbs⟩ := HNB.out
    have hq1 : q + 1 < B0 := by have := HG1.out; omega
    obtain ⟨g4, rfl⟩ : ∃ g4, a4 = some ⟨g4, 0, none⟩ := by
      rcases ho4.2 with ⟨_, h0⟩ | ⟨g, cap, cur, e, _⟩
      · omega
      · simp only [Value.slice.injEq] at e; exact ⟨g, e.1⟩
    have hap2 : (Value.slice a8 (T.spare.length - 1) n8).ownBlock ≠ some g4 := hap g4 rfl
    have hg4 := ho4.lt g4 rfl
    have hg4nb : g4 ≠ nb := fun e => own_ne ho4 hset (by decide) (by rw [← e]; rfl)
    have hc4 := ho4.cellAt n (by omega)
    obtain ⟨y, hy⟩ : ∃ y, y = T.place[n] := ⟨_, rfl⟩
    have hc4' : wz.cell? ⟨g4, n, none⟩ = some (.int .i64 y) := by rw [hc4, List.getElem?_map, List.getElem?_eq_getElem hnl, hy]; rfl
    have hf4 := ho4.frozenAt n
    have hlg4 := hg4.2
    have hst := (ho4.stored n (i64v s0)).1
    have hon : Only (fun x => x = g4) wz (wz.setCell ⟨g4, n, none⟩ (.int .i64 s0)).drew := (Only.of_set wz ⟨g4, n, none⟩ (.int .i64 s0)).drew
    have hset2 := hon.at hset (fun e => hg4nb e.symm)
    have o4 : (wz.setCell ⟨g4, n, none⟩ (.int .i64 s0)).drew.ownsRow B0 3 1 (.slice (some ⟨g4, 0, none⟩) T.place.length n4) T.place.length ((T.place.set n s0).map i64v) := by
      rw [List.map_set]; exact hst.drew
    have o8 := own_only ho8 hon (fun b hb e => hap2 (by rw [← e]; exact hb))
    have htk : T.took (n : Int) = { T with spare := T.spare.tail, place := T.place.set n s0 } := by unfold Tb.took; rw [if_neg (by omega), if_neg (by omega), HS0.out, Int.toNat_natCast]
    have hws : T.was (n : Int) = y := by unfold Tb.was; rw [if_neg (by omega), if_neg (by omega), Int.toNat_natCast, hy]; simp [List.getD, hnl]
    have hBy : Below w.heap.size w (wz.setCell ⟨g4, n, none⟩ (.int .i64 s0)).drew := (hBw.setCell (by show w.heap.size ≤ g4; have := hg4.1; omega) _).drew
    have hend := took_end (T' := T.took (n : Int)) (B0 := B0) hq hBy (hon.at hg1 (by have := hg4.1; omega)) (V4 := .slice (some ⟨g4, 0, none⟩) T.place.length n4) (V8 := .slice a8 (T.spare.length - 1) n8) (by rw [htk]; show World.ownsRow _ _ _ _ _ (T.place.set n s0).length _; rw [List.length_set]; exact o4) (by rw [htk]; show World.ownsRow _ _ _ _ _ T.spare.tail.length _; rw [List.length_tail]; exact o8) hq1 (by rw [htk]; exact hsq)
    have hfin := HF.out _ _ _ hend.1 hend.2.1
    have hR := hend.2.2
    rw [hws] at hfin
    rw [htk] at hfin hR
    unfold Tb.cells at hfin hR
    have d0 := cells_at hset2 0 _ rfl
    have d1 := cells_at hset2 1 _ rfl
    have d2 := cells_at hset2 2 _ rfl
    have d3 := cells_at hset2 3 _ rfl
    have d4 := cells_at hset2 4 _ rfl
    have hgy := hon.at hg1 (by have := hg4.1; omega)
    have e0 := cells_at hgy 0 _ rfl
    have e1 := cells_at hgy 1 _ rfl
    have e2 := cells_at hgy 2 _ rfl
    have e3 := cells_at hgy 3 _ rfl
    have e4 := cells_at hgy 4 _ rfl
    have z0 := froz_at hgy 0
    have z1 := froz_at hgy 1
    have z2 := froz_at hgy 2
    have z3 := froz_at hgy 3
    have z4 := froz_at hgy 4
    simp only [List.getElem_toArray, List.getElem_cons_succ, List.getElem_cons_zero] at d0 d1 d2 d3 d4 e0 e1 e2 e3 e4
    have hly := heap_lt hset2
    have hlg := heap_lt hgy
    have HX := Lib.hid (⟨hfin, hR⟩ : _ ∧ _)
    have HD := Lib.hid (⟨d0, d1, d2, d3, d4, e0, e1, e2, e3, e4, z0, z1, z2, z3, z4, hly, hlg⟩ : _ ∧ _ ∧ _ ∧ _ ∧ _ ∧ _ ∧ _ ∧ _ ∧ _ ∧ _ ∧ _ ∧ _ ∧ _ ∧ _ ∧ _ ∧ _ ∧ _)
    clear hset hbw ho4 ho8 hBw hg1 hsq hnb0 hB0 hq hbs hq1 hon hset2 o4 o8 htk hws hBy hend hfin hR d0 d1 d2 d3 d4 hgy e0 e1 e2 e3 e4 z0 z1 z2 z3 z4 hly hlg hst hc4 hg4 hap2 hap hg4nb hy
    clear m2 m3 hv
    go_wp2_with fail
    (refine wp_region_mix [0, 1, 2, 3, 4, 5, 6, 7, 8, 9, 10, 11, 12, 13, 14] [(true, true), (true, false), (true, true), (true, true), (true, false), (true, true), (true, true), (true, false), (true, true), (true, false), (true, true), (true, false), (true, true), (true, true), (false, false)] [0, 1, 0, 0, 8, 0, 56, 120, 0, 256, 768, 1792, 248, 8191, 16383] _ (by kernel_rfl) (by kernel_rfl) (rfl : _ = _) ?_; simp only [pickL, List.map_cons, List.map_nil, List.getD_cons_succ, List.getD_cons_zero])
    (repeat (first | (refine mix_pure (fun hne K hK => ?_); go_simp; refine hK _ ?_; clear hK K hne) | (refine mix_load ?_ (fun K hK => ?_); (focus (first | rfl | (go_simp; done))); go_simp; refine hK _ ?_; clear hK K) | (refine mix_skip ?_ (fun K hK => ?_); (focus (first | rfl | (go_simp; done))); go_simp; refine hK _ ?_; clear hK K)))
    (refine mix_one (by first | rfl | (go_simp; done)) (fun R hR hX => ?_))
    go_wp2_with fail
    ((try simp only [wpList]); refine hR _ _ rfl ⟨fun w' => w' = _, rfl, (fun h => by cases h), ?_⟩; clear hR hX R)
    refine mix_done ?_
    obtain ⟨d0, d1, d2, d3, d4, e0, e1, e2, e3, e4, z0, z1, z2, z3, z4, hly, hlg⟩ := HD.out
    clear n0 n1 n2 n3 n4' f3 f4 s2 hsc hc4' hf4 hlg4
    generalize (wz.setCell ⟨g4, n, none⟩ (.int .i64 s0)).drew = wy at *
    go_wp2_with fail
    refine bodyPost_ret (res_ctt rfl rfl HX.out.2 Try.underlying57 rfl (by kernel_rfl)) rfl HX.out.1
theorem take_calls (T : Tb) (vp vs : Value) (v : Int) (w : World) (hT : TabAt w T vp vs) (hv : I64 v) (hpl : T.place.length ≤ 1000) (hsl : T.spare.length ≤ 1000) :
    Calls Try.prog 36 #[tabV T vp vs, .int .i64 v] w (TakeEnds T v w) := by
  by_cases h : T.mayTake v
  · exact take_yes T vp vs v w hT hv h hpl hsl
  · exact take_no T vp vs v w hT hv h
end Go.Proofs.Ytogejjbclimjjaa
