/- Layer 5's answer: Open tells the same header as the program's. -/
--only r2
import Derived.Test.YtogejjbclimjjaaRSeal32
import Derived.Test.YtogejjbclimjjaaOpen
import Derived.Test.YtogejjbclimjjaaRefNum
import Derived.Test.YtogejjbclimjjaaBornB
import Derived.Test.YtogejjbclimjjaaStr
import Derived.Test.YtogejjbclimjjaaBytesLaw
namespace Go.Proofs.Ytogejjbclimjjaa
set_option linter.unusedVariables false
set_option linter.unusedSimpArgs false
open Go.RowKit

/-- a piece, and what stands behind it -/
theorem le_piece (l : List UInt8) (k n : Nat) (h : k + n ≤ l.length) : l.drop k = leBytes n (leAt l k n) ++ l.drop (k + n) := by
  unfold leAt
  have hn : ((l.drop k).take n).length = n := by simp; omega
  have := le_leNum ((l.drop k).take n)
  rw [hn] at this
  rw [this, ← List.drop_drop, List.take_append_drop]
theorem leAt_lt (l : List UInt8) (k n : Nat) : leAt l k n < 256 ^ n := by
  unfold leAt
  have h1 := leNum_lt ((l.drop k).take n)
  have h2 : ((l.drop k).take n).length ≤ n := by simp; omega
  exact Nat.lt_of_lt_of_le h1 (Nat.pow_le_pow_right (by omega) h2)
theorem hdrOf_ok (l : List UInt8) : (hdrOf l).Ok := ⟨leAt_lt l 2 1, leAt_lt l 4 4, leAt_lt l 8 4, leAt_lt l 12 2, leAt_lt l 14 2, leAt_lt l 16 4, leAt_lt l 20 4⟩

/-- what is well laid is the seal of what it tells -/
theorem seal_well (d l : List UInt8) (hl : l.length = 64) (hw : wellLaid l d = true) : sealB (hdrOf l) d (l.drop 32) = l := by
  unfold wellLaid at hw
  simp only [Bool.and_eq_true, decide_eq_true_eq] at hw
  obtain ⟨h0, h3, h28, h24⟩ := hw
  have p0 := le_piece l 0 2 (by omega)
  have p2 := le_piece l 2 1 (by omega)
  have p3 := le_piece l 3 1 (by omega)
  have p4 := le_piece l 4 4 (by omega)
  have p8 := le_piece l 8 4 (by omega)
  have p12 := le_piece l 12 2 (by omega)
  have p14 := le_piece l 14 2 (by omega)
  have p16 := le_piece l 16 4 (by omega)
  have p20 := le_piece l 20 4 (by omega)
  have p24 := le_piece l 24 4 (by omega)
  have p28 := le_piece l 28 4 (by omega)
  have hb : (hdrOf l).bytes = leBytes 2 22356 ++ (leBytes 1 (leAt l 2 1) ++ (leBytes 1 0 ++ (leBytes 4 (leAt l 4 4) ++ (leBytes 4 (leAt l 8 4) ++ (leBytes 2 (leAt l 12 2) ++ (leBytes 2 (leAt l 14 2) ++ (leBytes 4 (leAt l 16 4) ++ leBytes 4 (leAt l 20 4)))))))) := by
    unfold Hdr.bytes hdrOf
    simp only [leAll, List.flatMap_cons, List.flatMap_nil, List.append_nil, List.nil_append, List.append_assoc]
  have hl0 : l = (hdrOf l).bytes ++ l.drop 24 := by
    conv => lhs; rw [← List.drop_zero (l := l), p0, p2, p3, p4, p8, p12, p14, p16, p20]
    rw [hb, h0, h3]
    simp only [List.append_assoc]
  have ht : l.take 24 = (hdrOf l).bytes := by
    conv => lhs; rw [hl0]
    rw [List.take_left' (Hdr.bytes_length _)]
  have hm : tailB (l.drop 32) = l.drop 32 := by
    have h32 : (l.drop 32).length = 32 := by simp; omega
    unfold tailB
    rw [List.take_of_length_le (by omega), h32]
    simp
  unfold sealB
  rw [hm]
  unfold sum3 at h24
  rw [ht] at h24
  rw [← h24]
  have : 32 - ((hdrOf l).bytes ++ leBytes 4 (leAt l 24 4)).length = 4 := by rw [List.length_append, Hdr.bytes_length, leBytes_length]
  rw [this]
  conv => rhs; rw [hl0, p24, p28, h28]
  simp only [List.append_assoc]
  rfl
theorem opened_iff (d l : List UInt8) (hl : l.length = 64) (h1 : 1 ≤ leAt l 2 1) (h6 : leAt l 2 1 ≤ 6) : opened d l = if sealB (hdrOf l) d (l.drop 32) = l then some (hdrOf l) else none := by
  by_cases h : sealB (hdrOf l) d (l.drop 32) = l
  · rw [if_pos h]
    have := opened_seal (hdrOf_ok l) h1 h6 d (l.drop 32)
    rw [h] at this
    exact this
  · rw [if_neg h]
    exact if_neg fun hh => h (seal_well d l hl hh.2.1)

def ropenedV : Option Hdr → Value
  | some h => .tuple #[h.rv, .bool true]
  | none => .tuple #[Hdr.zero.rv, .bool false]

set_option maxRecDepth 100000 in
set_option maxHeartbeats 2000000 in
theorem ropen_calls (vd vm : Value) (d l : List UInt8) (w : World) (hd : RB w vd d) (hm : RB w vm l) (hdl : d.length ≤ 1000000) :
    Calls Try.prog 48 #[vd, vm] w fun e w' => e = .returned (ropenedV (opened d l)) ∧ Below w.heap.size w w' := by
  have hno : opened d l = none → ∀ w', Below w.heap.size w w' → (fun e w' => e = Ending.returned (ropenedV (opened d l)) ∧ Below w.heap.size w w') (.returned (.tuple #[.agg #[.int .i64 0, .int .i64 0, .int .i64 0, .int .i64 0, .int .i64 0, .int .i64 0, .int .i64 0], .bool false])) w' := fun h w' hb => ⟨by rw [h]; rfl, hb⟩
  have hyes : opened d l = some (hdrOf l) → ∀ w', Below w.heap.size w w' → (fun e w' => e = Ending.returned (ropenedV (opened d l)) ∧ Below w.heap.size w w') (.returned (.tuple #[.agg #[.int .i64 (leAt l 2 1), .int .i64 (leAt l 4 4), .int .i64 (leAt l 8 4), .int .i64 (leAt l 12 2), .int .i64 (leAt l 14 2), .int .i64 (leAt l 16 4), .int .i64 (leAt l 20 4)], .bool true])) w' := fun h w' hb => ⟨by rw [h]; rfl, hb⟩
  generalize (fun e w' => e = Ending.returned (ropenedV (opened d l)) ∧ Below w.heap.size w w') = Post at hno hyes ⊢
  obtain ⟨am, cm, rfl, hml, hmm⟩ := hm.form
  obtain ⟨ad, cd, rfl, hdl2, hdm⟩ := hd.form
  obtain ⟨q, hq⟩ : ∃ q, q = w.heap.size := ⟨_, rfl⟩
  obtain ⟨w1, hw1⟩ : ∃ w1, w1 = w.alloc (.cells #[.int .i64 0, .int .i64 0, .int .i64 0, .int .i64 0, .int .i64 0, .int .i64 0, .int .i64 0] 95) := ⟨_, rfl⟩
  have hb1 : Below w.heap.size w w1 := by rw [hw1]; exact (Below.refl _ _).alloc (Nat.le_refl _) _
  have hQ1 : w1.heap[q]? = some (.cells #[.int .i64 0, .int .i64 0, .int .i64 0, .int .i64 0, .int .i64 0, .int .i64 0, .int .i64 0] 95 (0, 0)) := by rw [hw1]; exact heap_is hq
  have HX := Lib.hid (⟨hb1, hQ1, hd.below hb1, hm.below hb1, hno, hyes⟩ : _ ∧ _ ∧ _ ∧ _ ∧ _ ∧ _)
  have HW1 := Lib.hid hw1
  have HQ := Lib.hid hq
  clear hb1 hw1 hd hm hno hyes
  by_cases hl : l.length = 64
  rotate_left
  · have hl' : ¬ (l.length : Int) = 64 := by omega
    have hz : opened d l = none := if_neg fun h => hl h.1
    have hend := HX.out.2.2.2.2.1 hz _ (put7 HX.out.1 q (.int .i64 0) (.int .i64 0) (.int .i64 0) (.int .i64 0) (.int .i64 0) (.int .i64 0) (.int .i64 0) (by omega) (Nat.le_refl _))
    have hset := set7 (.int .i64 0) (.int .i64 0) (.int .i64 0) (.int .i64 0) (.int .i64 0) (.int .i64 0) (.int .i64 0) hQ1
    have HE := Lib.hid (⟨hset, hend⟩ : _ ∧ _)
    have c0 := cells_at hQ1 0 _ rfl
    have f0 := froz_at hQ1 0
    have c1 := cells_at hQ1 1 _ rfl
    have f1 := froz_at hQ1 1
    have c2 := cells_at hQ1 2 _ rfl
    have f2 := froz_at hQ1 2
    have c3 := cells_at hQ1 3 _ rfl
    have f3 := froz_at hQ1 3
    have c4 := cells_at hQ1 4 _ rfl
    have f4 := froz_at hQ1 4
    have c5 := cells_at hQ1 5 _ rfl
    have f5 := froz_at hQ1 5
    have c6 := cells_at hQ1 6 _ rfl
    have f6 := froz_at hQ1 6
    have hlq := heap_lt hQ1
    clear hz hend hset hQ1
    go_enter Try.func48, Try.ntmps48
    go_upto_region 1 with (fail)
    rw [← hq, ← HW1.out]
    clear hq HW1 HQ
    go_wp2_with fail
    refine bodyPost_ret (res_ct rfl rfl HE.out.1 Try.underlying95 rfl (by kernel_rfl)) rfl ?_
    exact HE.out.2
  obtain ⟨k2, hk2⟩ : ∃ k, k = leAt l 2 1 := ⟨_, rfl⟩
  obtain ⟨k4, hk4⟩ : ∃ k, k = leAt l 4 4 := ⟨_, rfl⟩
  obtain ⟨k8, hk8⟩ : ∃ k, k = leAt l 8 4 := ⟨_, rfl⟩
  obtain ⟨k12, hk12⟩ : ∃ k, k = leAt l 12 2 := ⟨_, rfl⟩
  obtain ⟨k14, hk14⟩ : ∃ k, k = leAt l 14 2 := ⟨_, rfl⟩
  obtain ⟨k16, hk16⟩ : ∃ k, k = leAt l 16 4 := ⟨_, rfl⟩
  obtain ⟨k20, hk20⟩ : ∃ k, k = leAt l 20 4 := ⟨_, rfl⟩
  have l2 := leAt_lt l 2 1
  have l4 := leAt_lt l 4 4
  have l8 := leAt_lt l 8 4
  have l12 := leAt_lt l 12 2
  have l14 := leAt_lt l 14 2
  have l16 := leAt_lt l 16 4
  have l20 := leAt_lt l 20 4
  rw [← hk2] at l2
  rw [← hk4] at l4
  rw [← hk8] at l8
  rw [← hk12] at l12
  rw [← hk14] at l14
  rw [← hk16] at l16
  rw [← hk20] at l20
  have hnum : ∀ (k n v : Nat), v = leAt l k n → k + n ≤ l.length → n ≤ 7 → ∀ w', Below w1.heap.size w1 w' → Calls Try.prog 49 #[.slice am l.length cm, .int .i64 k, .int .i64 n] w' fun e w'' => e = .returned (.int .u64 v) ∧ w' = w'' := fun k n v hv hk hn w' hb => by
    rw [hv]
    exact num_calls _ l k n w' (HX.out.2.2.2.1.below hb) hk hn
  have n4 := hnum 4 4 k4 hk4 (by omega) (by omega)
  have n8 := hnum 8 4 k8 hk8 (by omega) (by omega)
  have n12 := hnum 12 2 k12 hk12 (by omega) (by omega)
  have n14 := hnum 14 2 k14 hk14 (by omega) (by omega)
  have n16 := hnum 16 4 k16 hk16 (by omega) (by omega)
  have n20 := hnum 20 4 k20 hk20 (by omega) (by omega)
  obtain ⟨bm, om, cm', em, -, -, hcm⟩ := HX.out.2.2.2.1.out (by omega)
  simp only [Value.slice.injEq] at em
  obtain ⟨rfl, -, rfl⟩ := em
  have m2 : w1.cell? ⟨bm, om + 2, none⟩ = some (.int .u8 k2) := by
    have := hcm 2 (by omega)
    rw [this, hk2]
    unfold leAt
    have h2 : (l.drop 2).take 1 = [l[2]'(by omega)] := by
      rw [List.drop_eq_getElem_cons (by omega : 2 < l.length)]
      rfl
    rw [h2, leNum_one]
  have hbmw := cell_lt m2
  have m2' : ∀ w', Below w1.heap.size w1 w' → w'.cell? ⟨bm, om + 2, none⟩ = some (.int .u8 k2) := fun w' h => below_cell h hbmw m2
  obtain ⟨nl, hnl⟩ : ∃ nl, nl = l.length := ⟨_, rfl⟩
  have hrv : hdrOf l = ⟨k2, k4, k8, k12, k14, k16, k20⟩ := by rw [hk2, hk4, hk8, hk12, hk14, hk16, hk20]; rfl
  have hop := opened_iff d l hl
  obtain ⟨iu, hiu, hu0, hu1, hu2⟩ := info_parts infoU8
  have hcm2 : 64 ≤ cm := by omega
  obtain ⟨ac, kc, hcv⟩ : ∃ a k, cutV (some ⟨bm, om, none⟩) cm 32 64 = .slice a 32 k := ⟨_, _, by unfold cutV; rfl⟩
  have hcut : ∀ w, (Instr.sliceAt 23 (.slice (some ⟨bm, om, none⟩) 64 cm) (some (.int .i64 32)) none none).run Try.prog w = .ok (.slice ac 32 kc) w := fun w => by
    have := run_cut_from (P := Try.prog) Try.underlying23 hiu hu1 (some ⟨bm, om, none⟩) 64 cm 32 (by omega) w
    rw [hcv] at this
    exact this
  have hm1 : RB w1 (.slice (some ⟨bm, om, none⟩) 64 cm) l := by have := HX.out.2.2.2.1; rw [hl] at this; exact this
  have hcrb : RB w1 (.slice ac 32 kc) (l.drop 32) := by
    have := RV.cut hm1 (i := 32) (j := 64) (by omega) (by rw [List.length_map, hl]; exact Nat.le_refl _)
    rw [hcv, show 64 - 32 = 32 from rfl, List.take_of_length_le (by rw [List.length_drop, List.length_map, hl]; exact Nat.le_refl _), ← List.map_drop] at this
    exact this
  have hd32 : (l.drop 32).length = 32 := by rw [List.length_drop, hl]
  have hno := HX.out.2.2.2.2.1
  have hyes := HX.out.2.2.2.2.2
  rw [← hk2, ← hk4, ← hk8, ← hk12, ← hk14, ← hk16, ← hk20] at hyes
  rw [← hk2] at hop
  have hop2 : ¬ (1 ≤ k2 ∧ k2 ≤ 6) → opened d l = none := fun h => if_neg fun hh => h ⟨by rw [hk2]; exact hh.2.2.1, by rw [hk2]; exact hh.2.2.2⟩
  have hok := hdrOf_ok l
  rw [hrv] at hop hok hyes
  have HN := Lib.hid (⟨n4, n8, n12, n14, n16, n20⟩ : _ ∧ _ ∧ _ ∧ _ ∧ _ ∧ _)
  have HY := Lib.hid (⟨HX.out.1, HX.out.2.1, HX.out.2.2.1, hm1, hcrb, hd32, hop, hop2, hno, hyes, hok, hdl⟩ : _ ∧ _ ∧ _ ∧ _ ∧ _ ∧ _ ∧ _ ∧ _ ∧ _ ∧ _ ∧ _ ∧ _)
  rw [hl] at HN ⊢
  have w4 : IntKind.i64.wrap (k4 : Int) = (k4 : Int) := IntWalk.i64_in _ ⟨by omega, by omega⟩
  have w8 : IntKind.i64.wrap (k8 : Int) = (k8 : Int) := IntWalk.i64_in _ ⟨by omega, by omega⟩
  have w12 : IntKind.i64.wrap (k12 : Int) = (k12 : Int) := IntWalk.i64_in _ ⟨by omega, by omega⟩
  have w14 : IntKind.i64.wrap (k14 : Int) = (k14 : Int) := IntWalk.i64_in _ ⟨by omega, by omega⟩
  have w16 : IntKind.i64.wrap (k16 : Int) = (k16 : Int) := IntWalk.i64_in _ ⟨by omega, by omega⟩
  have w20 : IntKind.i64.wrap (k20 : Int) = (k20 : Int) := IntWalk.i64_in _ ⟨by omega, by omega⟩
  have w2 : IntKind.i64.wrap (k2 : Int) = (k2 : Int) := IntWalk.i64_in _ ⟨by omega, by omega⟩
  clear hk2 hk4 hk8 hk12 hk14 hk16 hk20 hnum n4 n8 n12 n14 n16 n20 hcm m2 hrv hop hcv hm1 hcrb hd32 hno hyes hop2 hok HX hml hl hnl hQ1 hdl
  go_enter Try.func48, Try.ntmps48
  go_upto_region 1 with (fail)
  rw [← hq, ← HW1.out]
  clear hq HW1
  go_upto_region 3 with (fail)
  (refine wp_region_born [.soft 0, .soft 1, .soft 2, .soft 3, .soft 4, .soft 7, .soft 10, .soft 13, .soft 16, .soft 19, .ann 23, .hard 5, .soft 6, .hard 8, .soft 9, .hard 11, .soft 12, .hard 14, .soft 15, .hard 17, .soft 18, .hard 20, .soft 21, .soft 22, .take 23, .hard 24] [(true, true), (true, true), (true, false), (true, true), (true, true), (false, false), (true, true), (true, true), (false, false), (true, true), (true, true), (false, false), (true, true), (true, true), (false, false), (true, true), (true, true), (false, false), (true, true), (true, true), (false, false), (true, true), (true, true), (false, false), (false, false)] [0, 1, 3, 7, 0, 16, 48, 0, 176, 432, 0, 1456, 3504, 0, 11696, 28080, 0, 93616, 224688, 0, 748976, 1797552, 4194303, 0, 16777215] (fun w' => Below w1.heap.size w1 w') (BelA w1 (fun _ => True)) (fun b => b < w1.heap.size) (by kernel_rfl) (by kernel_rfl) ?_ ?_ ?_)
  · exact BelA.good (fun _ _ _ => trivial)
  · exact ⟨(Below.refl _ _).drew, rfl, trivial⟩
  iterate 10 (first | (refine bx_pure rfl (fun KK hKK => ?_); go_simp; refine hKK _ ?_; clear hKK KK) | (refine bx_load rfl rfl ?_ (fun KK hKK => ?_); (focus (first | rfl | (go_simp; done))); apply Exists.intro; apply And.intro; (focus (intro w' hC; go_simp; exact rfl)); go_simp; refine hKK _ ?_; clear hKK KK) | (refine bx_skip rfl ?_ (fun KK hKK => ?_); (focus (first | rfl | (go_simp; done))); go_simp; refine hKK _ ?_; clear hKK KK))
  (apply bx_ann rfl; (focus (intro w n hL hn; go_simp; (first | exact ⟨rfl, rfl⟩ | exact rfl))))
  refine bx_one rfl (by first | rfl | (go_simp; done)) (fun G wc hA R hR hX => ?_)
  obtain ⟨hbc, rfl, -⟩ := hA
  go_wp2_with fail
  refine (HN.out.1 wc hbc).mono ?_
  rintro e wn ⟨rfl, rfl⟩
  go_wp2_with fail
  refine hR _ _ rfl ⟨BelA w1 (fun _ => True), _, BelA.good (fun _ _ _ => trivial), ⟨hbc, rfl, trivial⟩, Only.new (Below.refl _ _) _, fun _ h => .inl h, ?_⟩
  clear hR hX R hbc
  (first | (refine bx_pure rfl (fun KK hKK => ?_); go_simp; refine hKK _ ?_; clear hKK KK) | (refine bx_load rfl rfl ?_ (fun KK hKK => ?_); (focus (first | rfl | (go_simp; done))); apply Exists.intro; apply And.intro; (focus (intro w' hC; go_simp; exact rfl)); go_simp; refine hKK _ ?_; clear hKK KK) | (refine bx_skip rfl ?_ (fun KK hKK => ?_); (focus (first | rfl | (go_simp; done))); go_simp; refine hKK _ ?_; clear hKK KK))
  refine bx_one rfl (by first | rfl | (go_simp; done)) (fun G wc hA R hR hX => ?_)
  obtain ⟨hbc, rfl, -⟩ := hA
  go_wp2_with fail
  refine (HN.out.2.1 wc hbc).mono ?_
  rintro e wn ⟨rfl, rfl⟩
  go_wp2_with fail
  refine hR _ _ rfl ⟨BelA w1 (fun _ => True), _, BelA.good (fun _ _ _ => trivial), ⟨hbc, rfl, trivial⟩, Only.new (Below.refl _ _) _, fun _ h => .inl h, ?_⟩
  clear hR hX R hbc
  (first | (refine bx_pure rfl (fun KK hKK => ?_); go_simp; refine hKK _ ?_; clear hKK KK) | (refine bx_load rfl rfl ?_ (fun KK hKK => ?_); (focus (first | rfl | (go_simp; done))); apply Exists.intro; apply And.intro; (focus (intro w' hC; go_simp; exact rfl)); go_simp; refine hKK _ ?_; clear hKK KK) | (refine bx_skip rfl ?_ (fun KK hKK => ?_); (focus (first | rfl | (go_simp; done))); go_simp; refine hKK _ ?_; clear hKK KK))
  refine bx_one rfl (by first | rfl | (go_simp; done)) (fun G wc hA R hR hX => ?_)
  obtain ⟨hbc, rfl, -⟩ := hA
  go_wp2_with fail
  refine (HN.out.2.2.1 wc hbc).mono ?_
  rintro e wn ⟨rfl, rfl⟩
  go_wp2_with fail
  refine hR _ _ rfl ⟨BelA w1 (fun _ => True), _, BelA.good (fun _ _ _ => trivial), ⟨hbc, rfl, trivial⟩, Only.new (Below.refl _ _) _, fun _ h => .inl h, ?_⟩
  clear hR hX R hbc
  (first | (refine bx_pure rfl (fun KK hKK => ?_); go_simp; refine hKK _ ?_; clear hKK KK) | (refine bx_load rfl rfl ?_ (fun KK hKK => ?_); (focus (first | rfl | (go_simp; done))); apply Exists.intro; apply And.intro; (focus (intro w' hC; go_simp; exact rfl)); go_simp; refine hKK _ ?_; clear hKK KK) | (refine bx_skip rfl ?_ (fun KK hKK => ?_); (focus (first | rfl | (go_simp; done))); go_simp; refine hKK _ ?_; clear hKK KK))
  refine bx_one rfl (by first | rfl | (go_simp; done)) (fun G wc hA R hR hX => ?_)
  obtain ⟨hbc, rfl, -⟩ := hA
  go_wp2_with fail
  refine (HN.out.2.2.2.1 wc hbc).mono ?_
  rintro e wn ⟨rfl, rfl⟩
  go_wp2_with fail
  refine hR _ _ rfl ⟨BelA w1 (fun _ => True), _, BelA.good (fun _ _ _ => trivial), ⟨hbc, rfl, trivial⟩, Only.new (Below.refl _ _) _, fun _ h => .inl h, ?_⟩
  clear hR hX R hbc
  (first | (refine bx_pure rfl (fun KK hKK => ?_); go_simp; refine hKK _ ?_; clear hKK KK) | (refine bx_load rfl rfl ?_ (fun KK hKK => ?_); (focus (first | rfl | (go_simp; done))); apply Exists.intro; apply And.intro; (focus (intro w' hC; go_simp; exact rfl)); go_simp; refine hKK _ ?_; clear hKK KK) | (refine bx_skip rfl ?_ (fun KK hKK => ?_); (focus (first | rfl | (go_simp; done))); go_simp; refine hKK _ ?_; clear hKK KK))
  refine bx_one rfl (by first | rfl | (go_simp; done)) (fun G wc hA R hR hX => ?_)
  obtain ⟨hbc, rfl, -⟩ := hA
  go_wp2_with fail
  refine (HN.out.2.2.2.2.1 wc hbc).mono ?_
  rintro e wn ⟨rfl, rfl⟩
  go_wp2_with fail
  refine hR _ _ rfl ⟨BelA w1 (fun _ => True), _, BelA.good (fun _ _ _ => trivial), ⟨hbc, rfl, trivial⟩, Only.new (Below.refl _ _) _, fun _ h => .inl h, ?_⟩
  clear hR hX R hbc
  (first | (refine bx_pure rfl (fun KK hKK => ?_); go_simp; refine hKK _ ?_; clear hKK KK) | (refine bx_load rfl rfl ?_ (fun KK hKK => ?_); (focus (first | rfl | (go_simp; done))); apply Exists.intro; apply And.intro; (focus (intro w' hC; go_simp; exact rfl)); go_simp; refine hKK _ ?_; clear hKK KK) | (refine bx_skip rfl ?_ (fun KK hKK => ?_); (focus (first | rfl | (go_simp; done))); go_simp; refine hKK _ ?_; clear hKK KK))
  refine bx_one rfl (by first | rfl | (go_simp; done)) (fun G wc hA R hR hX => ?_)
  obtain ⟨hbc, rfl, -⟩ := hA
  go_wp2_with fail
  refine (HN.out.2.2.2.2.2 wc hbc).mono ?_
  rintro e wn ⟨rfl, rfl⟩
  go_wp2_with fail
  refine hR _ _ rfl ⟨BelA w1 (fun _ => True), _, BelA.good (fun _ _ _ => trivial), ⟨hbc, rfl, trivial⟩, Only.new (Below.refl _ _) _, fun _ h => .inl h, ?_⟩
  clear hR hX R hbc
  (first | (refine bx_pure rfl (fun KK hKK => ?_); go_simp; refine hKK _ ?_; clear hKK KK) | (refine bx_load rfl rfl ?_ (fun KK hKK => ?_); (focus (first | rfl | (go_simp; done))); apply Exists.intro; apply And.intro; (focus (intro w' hC; go_simp; exact rfl)); go_simp; refine hKK _ ?_; clear hKK KK) | (refine bx_skip rfl ?_ (fun KK hKK => ?_); (focus (first | rfl | (go_simp; done))); go_simp; refine hKK _ ?_; clear hKK KK))
  (first | (refine bx_pure rfl (fun KK hKK => ?_); go_simp; refine hKK _ ?_; clear hKK KK) | (refine bx_load rfl rfl ?_ (fun KK hKK => ?_); (focus (first | rfl | (go_simp; done))); apply Exists.intro; apply And.intro; (focus (intro w' hC; go_simp; exact rfl)); go_simp; refine hKK _ ?_; clear hKK KK) | (refine bx_skip rfl ?_ (fun KK hKK => ?_); (focus (first | rfl | (go_simp; done))); go_simp; refine hKK _ ?_; clear hKK KK))
  (refine bx_take rfl rfl (fun nb KK hKK => ?_); go_simp; refine hKK _ ?_; clear hKK KK)
  refine bx_last rfl rfl (by first | rfl | (go_simp; done)) (fun G wc hA R hR hX => ?_)
  obtain ⟨⟨hbc, rfl, -⟩, hnb, hnG⟩ := hA
  have n0 := cells_at hnb 0 _ rfl
  have f0 := froz_at hnb 0
  have n1 := cells_at hnb 1 _ rfl
  have f1 := froz_at hnb 1
  have n2 := cells_at hnb 2 _ rfl
  have f2 := froz_at hnb 2
  have n3 := cells_at hnb 3 _ rfl
  have f3 := froz_at hnb 3
  have n4 := cells_at hnb 4 _ rfl
  have f4 := froz_at hnb 4
  have n5 := cells_at hnb 5 _ rfl
  have f5 := froz_at hnb 5
  have n6 := cells_at hnb 6 _ rfl
  have f6 := froz_at hnb 6
  simp only [List.getElem_toArray, List.getElem_cons_succ, List.getElem_cons_zero] at n0 n1 n2 n3 n4 n5 n6
  have hlnb := heap_lt hnb
  have hnb0 : w1.heap.size ≤ nb := by have : ¬ nb < w1.heap.size := fun h => hnG h; omega
  have hset := set7 (.int .i64 k2) (.int .i64 k4) (.int .i64 k8) (.int .i64 k12) (.int .i64 k14) (.int .i64 k16) (.int .i64 k20) hnb
  have hput := put7 hbc nb (.int .i64 k2) (.int .i64 k4) (.int .i64 k8) (.int .i64 k12) (.int .i64 k14) (.int .i64 k16) (.int .i64 k20) hnb0 (Nat.le_refl _)
  have H8 := Lib.hid (⟨hset, hput⟩ : _ ∧ _)
  clear hset hput hnb0 hnG hbc hnb
  go_wp2_with fail
  (try simp only [wpList])
  refine hR _ _ rfl ⟨EndA w1 (fun w' => w'.heap[nb]? = some (.cells #[.int .i64 k2, .int .i64 k4, .int .i64 k8, .int .i64 k12, .int .i64 k14, .int .i64 k16, .int .i64 k20] 95 (0, 0))), fun _ => False, EndA.good (fun w' o h => heap_old _ h), ⟨H8.out.2, fun _ => id, H8.out.1⟩, fun _ h => h.elim, ?_⟩
  clear hR hX R n0 n1 n2 n3 n4 n5 n6 f0 f1 f2 f3 f4 f5 f6 hlnb H8
  refine bx_done (fun G wz hz => ?_)
  obtain ⟨hbz, -, hnz⟩ := hz
  clear w2 w4 w8 w12 w14 w16 w20 m2' hbmw HN
  have n0 := cells_at hnz 0 _ rfl
  have n1 := cells_at hnz 1 _ rfl
  have n2 := cells_at hnz 2 _ rfl
  have n3 := cells_at hnz 3 _ rfl
  have n4 := cells_at hnz 4 _ rfl
  have n5 := cells_at hnz 5 _ rfl
  have n6 := cells_at hnz 6 _ rfl
  simp only [List.getElem_toArray, List.getElem_cons_succ, List.getElem_cons_zero] at n0 n1 n2 n3 n4 n5 n6
  have hlnb := heap_lt hnz
  have hqw : q < w1.heap.size := heap_lt HY.out.2.1
  have HZ := Lib.hid (⟨hbz, hnz, hqw⟩ : _ ∧ _ ∧ _)
  clear hbz hnz hqw
  have hend : ∀ w', Below w1.heap.size w1 w' → opened d l = none → ∃ w'', w'' = (((((((w'.setCell ⟨q, 0, none⟩ (.int .i64 0)).setCell ⟨q, 1, none⟩ (.int .i64 0)).setCell ⟨q, 2, none⟩ (.int .i64 0)).setCell ⟨q, 3, none⟩ (.int .i64 0)).setCell ⟨q, 4, none⟩ (.int .i64 0)).setCell ⟨q, 5, none⟩ (.int .i64 0)).setCell ⟨q, 6, none⟩ (.int .i64 0)) ∧ w''.heap[q]? = some (.cells #[.int .i64 0, .int .i64 0, .int .i64 0, .int .i64 0, .int .i64 0, .int .i64 0, .int .i64 0] 95 (0, 0)) ∧ Post (.returned (.tuple #[.agg #[.int .i64 0, .int .i64 0, .int .i64 0, .int .i64 0, .int .i64 0, .int .i64 0, .int .i64 0], .bool false])) w'' := fun w' hb ho =>
    ⟨_, rfl, set7 _ _ _ _ _ _ _ (heap_keep hb HY.out.2.1), HY.out.2.2.2.2.2.2.2.2.1 ho _ (put7 (HY.out.1.trans (hb.mono HY.out.1.size)) q (.int .i64 0) (.int .i64 0) (.int .i64 0) (.int .i64 0) (.int .i64 0) (.int .i64 0) (.int .i64 0) (by have := HQ.out; omega) (Nat.le_refl _))⟩
  have HEND := Lib.hid hend
  clear hend
  by_cases h1 : k2 < 1
  · have e1 : decide ((k2 : Int) < 1) = true := by simp; omega
    go_upto_region 4 with (fail)
    (refine wp_region_mix [0, 1, 2, 3, 4, 5, 6, 7, 8, 9, 10, 11, 12, 14, 13, 15, 16, 17] [(true, true), (true, false), (true, true), (true, true), (true, true), (true, false), (true, true), (true, true), (true, true), (true, false), (true, true), (true, true), (true, true), (true, true), (false, false), (false, false), (true, true), (true, true)] [0, 1, 3, 7, 15, 31, 63, 127, 255, 511, 511, 511, 2559, 8191, 511, 32767, 65535, 131071] _ (by kernel_rfl) (by kernel_rfl) (rfl : _ = _) ?_; simp only [pickL, List.map_cons, List.map_nil, List.getD_cons_succ, List.getD_cons_zero])
    (repeat (first | (refine mix_pure (fun hne K hK => ?_); go_simp; refine hK _ ?_; clear hK K hne) | (refine mix_load ?_ (fun K hK => ?_); (focus (first | rfl | (go_simp; done))); go_simp; refine hK _ ?_; clear hK K) | (refine mix_skip ?_ (fun K hK => ?_); (focus (first | rfl | (go_simp; done))); go_simp; refine hK _ ?_; clear hK K)))
    refine mix_done ?_
    clear n0 n1 n2 n3 n4 n5 n6 hlnb hcut
    have hbd := HZ.out.1.drew
    generalize wz.drew = wy at hbd ⊢
    have hQz := heap_keep hbd HY.out.2.1
    obtain ⟨wE, hwE, hE1, hE2⟩ := HEND.out wy hbd (HY.out.2.2.2.2.2.2.2.1 (by omega))
    subst hwE
    have HE := Lib.hid (⟨hE1, hE2⟩ : _ ∧ _)
    clear hE1 hE2 hbd
    have c0 := cells_at hQz 0 _ rfl
    have f0 := froz_at hQz 0
    have c1 := cells_at hQz 1 _ rfl
    have f1 := froz_at hQz 1
    have c2 := cells_at hQz 2 _ rfl
    have f2 := froz_at hQz 2
    have c3 := cells_at hQz 3 _ rfl
    have f3 := froz_at hQz 3
    have c4 := cells_at hQz 4 _ rfl
    have f4 := froz_at hQz 4
    have c5 := cells_at hQz 5 _ rfl
    have f5 := froz_at hQz 5
    have c6 := cells_at hQz 6 _ rfl
    have f6 := froz_at hQz 6
    simp only [List.getElem_toArray, List.getElem_cons_succ, List.getElem_cons_zero] at c0 c1 c2 c3 c4 c5 c6
    have hlqz := heap_lt hQz
    clear hQz
    go_wp2_with fail
    refine bodyPost_ret (res_ct rfl rfl HE.out.1 Try.underlying95 rfl (by kernel_rfl)) rfl ?_
    exact HE.out.2
  by_cases h2 : 6 < k2
  · have e1 : decide ((k2 : Int) < 1) = false := by simp; omega
    have e2 : decide ((6 : Int) < (k2 : Int)) = true := by simp; omega
    go_upto_region 4 with (fail)
    (refine wp_region_mix [0, 1, 2, 3, 4, 5, 6, 7, 8, 9, 10, 11, 12, 14, 13, 15, 16, 17] [(true, true), (true, false), (true, true), (true, true), (true, true), (true, false), (true, true), (true, true), (true, true), (true, false), (true, true), (true, true), (true, true), (true, true), (false, false), (false, false), (true, true), (true, true)] [0, 1, 3, 7, 15, 31, 63, 127, 255, 511, 511, 511, 2559, 8191, 511, 32767, 65535, 131071] _ (by kernel_rfl) (by kernel_rfl) (rfl : _ = _) ?_; simp only [pickL, List.map_cons, List.map_nil, List.getD_cons_succ, List.getD_cons_zero])
    (repeat (first | (refine mix_pure (fun hne K hK => ?_); go_simp; refine hK _ ?_; clear hK K hne) | (refine mix_load ?_ (fun K hK => ?_); (focus (first | rfl | (go_simp; done))); go_simp; refine hK _ ?_; clear hK K) | (refine mix_skip ?_ (fun K hK => ?_); (focus (first | rfl | (go_simp; done))); go_simp; refine hK _ ?_; clear hK K)))
    refine mix_done ?_
    clear n0 n1 n2 n3 n4 n5 n6 hlnb hcut
    have hbd := HZ.out.1.drew
    generalize wz.drew = wy at hbd ⊢
    have hQz := heap_keep hbd HY.out.2.1
    obtain ⟨wE, hwE, hE1, hE2⟩ := HEND.out wy hbd (HY.out.2.2.2.2.2.2.2.1 (by omega))
    subst hwE
    have HE := Lib.hid (⟨hE1, hE2⟩ : _ ∧ _)
    clear hE1 hE2 hbd
    have c0 := cells_at hQz 0 _ rfl
    have f0 := froz_at hQz 0
    have c1 := cells_at hQz 1 _ rfl
    have f1 := froz_at hQz 1
    have c2 := cells_at hQz 2 _ rfl
    have f2 := froz_at hQz 2
    have c3 := cells_at hQz 3 _ rfl
    have f3 := froz_at hQz 3
    have c4 := cells_at hQz 4 _ rfl
    have f4 := froz_at hQz 4
    have c5 := cells_at hQz 5 _ rfl
    have f5 := froz_at hQz 5
    have c6 := cells_at hQz 6 _ rfl
    have f6 := froz_at hQz 6
    simp only [List.getElem_toArray, List.getElem_cons_succ, List.getElem_cons_zero] at c0 c1 c2 c3 c4 c5 c6
    have hlqz := heap_lt hQz
    clear hQz
    go_wp2_with fail
    refine bodyPost_ret (res_ct rfl rfl HE.out.1 Try.underlying95 rfl (by kernel_rfl)) rfl ?_
    exact HE.out.2
  have e1 : decide ((k2 : Int) < 1) = false := by simp; omega
  have e2 : decide ((6 : Int) < (k2 : Int)) = false := by simp; omega
  obtain ⟨S, hS⟩ : ∃ S, S = sealB ⟨k2, k4, k8, k12, k14, k16, k20⟩ d (l.drop 32) := ⟨_, rfl⟩
  have hse := rseal_32 ⟨k2, k4, k8, k12, k14, k16, k20⟩ HY.out.2.2.2.2.2.2.2.2.2.2.1 _ _ d (l.drop 32) wz.drew (HY.out.2.2.1.below HZ.out.1.drew) (HY.out.2.2.2.2.1.below HZ.out.1.drew) HY.out.2.2.2.2.2.1 HY.out.2.2.2.2.2.2.2.2.2.2.2
  have hop := HY.out.2.2.2.2.2.2.1 (by omega) (by omega)
  rw [← hS] at hse hop
  have HS := Lib.hid (⟨hse, hop⟩ : _ ∧ _)
  clear hse hop hS
  obtain ⟨D, hD⟩ : ∃ D, D = decide (S = l) := ⟨_, rfl⟩
  have HD := Lib.hid hD
  clear hD h1 h2
  go_upto_region 4 with (fail)
  (refine wp_region_mix [0, 1, 2, 3, 4, 5, 6, 7, 8, 9, 10, 11, 12, 14, 13, 15, 16, 17] [(true, true), (true, false), (true, true), (true, true), (true, true), (true, false), (true, true), (true, true), (true, true), (true, false), (true, true), (true, true), (true, true), (true, true), (false, false), (false, false), (true, true), (true, true)] [0, 1, 3, 7, 15, 31, 63, 127, 255, 511, 511, 511, 2559, 8191, 511, 32767, 65535, 131071] _ (by kernel_rfl) (by kernel_rfl) (rfl : _ = _) ?_; simp only [pickL, List.map_cons, List.map_nil, List.getD_cons_succ, List.getD_cons_zero])
  iterate 14 (first | (refine mix_pure (fun hne K hK => ?_); go_simp; refine hK _ ?_; clear hK K hne) | (refine mix_load ?_ (fun K hK => ?_); (focus (first | rfl | (go_simp; done))); go_simp; refine hK _ ?_; clear hK K) | (refine mix_skip ?_ (fun K hK => ?_); (focus (first | rfl | (go_simp; done))); go_simp; refine hK _ ?_; clear hK K))
  (refine mix_one (by first | rfl | (go_simp; done)) (fun R hR hX => ?_))
  go_wp2_with fail
  refine HS.out.1.mono ?_
  rintro e wn ⟨x, rfl, hx, hb⟩
  have hxr : RB wn x S := RV.own hx
  obtain ⟨ys, zs, rfl⟩ := own_slice hx
  have hBn := HZ.out.1.drew.trans (hb.mono HZ.out.1.drew.size)
  have hsame := rsame_calls _ _ S l wn hxr (HY.out.2.2.2.1.below hBn)
  rw [← HD.out] at hsame
  have HN2 := Lib.hid (⟨hsame, hBn, heap_keep hBn HY.out.2.1, hb⟩ : _ ∧ _ ∧ _ ∧ _)
  clear hxr hx hb hsame hBn
  go_wp2_with fail
  ((try simp only [wpList]); refine hR _ _ rfl ⟨fun w' => w' = _, rfl, (fun h => by cases h), ?_⟩; clear hR hX R)
  (refine mix_one (by first | rfl | (go_simp; done)) (fun R hR hX => ?_))
  go_wp2_with fail
  refine HN2.out.1.mono ?_
  rintro e wn' ⟨rfl, rfl⟩
  go_wp2_with fail
  ((try simp only [wpList]); refine hR _ _ rfl ⟨fun w' => w' = _, rfl, (fun h => by cases h), ?_⟩; clear hR hX R)
  (repeat (first | (refine mix_pure (fun hne K hK => ?_); go_simp; refine hK _ ?_; clear hK K hne) | (refine mix_load ?_ (fun K hK => ?_); (focus (first | rfl | (go_simp; done))); go_simp; refine hK _ ?_; clear hK K) | (refine mix_skip ?_ (fun K hK => ?_); (focus (first | rfl | (go_simp; done))); go_simp; refine hK _ ?_; clear hK K)))
  refine mix_done ?_
  clear n0 n1 n2 n3 n4 n5 n6 hlnb hcut
  cases D with
  | false =>
    have hnone : opened d l = none := by rw [HS.out.2, if_neg (of_decide_eq_false HD.out.symm)]
    obtain ⟨wE, hwE, hE1, hE2⟩ := HEND.out wn HN2.out.2.1 hnone
    subst hwE
    have HE := Lib.hid (⟨hE1, hE2⟩ : _ ∧ _)
    clear hE1 hE2 hnone
    have hQz := HN2.out.2.2.1
    have c0 := cells_at hQz 0 _ rfl
    have f0 := froz_at hQz 0
    have c1 := cells_at hQz 1 _ rfl
    have f1 := froz_at hQz 1
    have c2 := cells_at hQz 2 _ rfl
    have f2 := froz_at hQz 2
    have c3 := cells_at hQz 3 _ rfl
    have f3 := froz_at hQz 3
    have c4 := cells_at hQz 4 _ rfl
    have f4 := froz_at hQz 4
    have c5 := cells_at hQz 5 _ rfl
    have f5 := froz_at hQz 5
    have c6 := cells_at hQz 6 _ rfl
    have f6 := froz_at hQz 6
    simp only [List.getElem_toArray, List.getElem_cons_succ, List.getElem_cons_zero] at c0 c1 c2 c3 c4 c5 c6
    have hlqz := heap_lt hQz
    clear hQz
    go_wp2_with fail
    refine bodyPost_ret (res_ct rfl rfl HE.out.1 Try.underlying95 rfl (by kernel_rfl)) rfl ?_
    exact HE.out.2
  | true =>
    have hsome : opened d l = some ⟨k2, k4, k8, k12, k14, k16, k20⟩ := by rw [HS.out.2, if_pos (of_decide_eq_true HD.out.symm)]
    have hQz := HN2.out.2.2.1
    have hnz := heap_keep HN2.out.2.2.2 (w := wz.drew) HZ.out.2.1
    have hset := set7 (.int .i64 k2) (.int .i64 k4) (.int .i64 k8) (.int .i64 k12) (.int .i64 k14) (.int .i64 k16) (.int .i64 k20) hQz
    have hend := HY.out.2.2.2.2.2.2.2.2.2.1 hsome _ (put7 (HY.out.1.trans (HN2.out.2.1.mono HY.out.1.size)) q (.int .i64 k2) (.int .i64 k4) (.int .i64 k8) (.int .i64 k12) (.int .i64 k14) (.int .i64 k16) (.int .i64 k20) (by have := HQ.out; omega) (Nat.le_refl _))
    have HE := Lib.hid (⟨hset, hend⟩ : _ ∧ _)
    clear hset hend hsome
    have c0 := cells_at hQz 0 _ rfl
    have f0 := froz_at hQz 0
    have c1 := cells_at hQz 1 _ rfl
    have f1 := froz_at hQz 1
    have c2 := cells_at hQz 2 _ rfl
    have f2 := froz_at hQz 2
    have c3 := cells_at hQz 3 _ rfl
    have f3 := froz_at hQz 3
    have c4 := cells_at hQz 4 _ rfl
    have f4 := froz_at hQz 4
    have c5 := cells_at hQz 5 _ rfl
    have f5 := froz_at hQz 5
    have c6 := cells_at hQz 6 _ rfl
    have f6 := froz_at hQz 6
    simp only [List.getElem_toArray, List.getElem_cons_succ, List.getElem_cons_zero] at c0 c1 c2 c3 c4 c5 c6
    have hlqz := heap_lt hQz
    have n0 := cells_at hnz 0 _ rfl
    have n1 := cells_at hnz 1 _ rfl
    have n2 := cells_at hnz 2 _ rfl
    have n3 := cells_at hnz 3 _ rfl
    have n4 := cells_at hnz 4 _ rfl
    have n5 := cells_at hnz 5 _ rfl
    have n6 := cells_at hnz 6 _ rfl
    simp only [List.getElem_toArray, List.getElem_cons_succ, List.getElem_cons_zero] at n0 n1 n2 n3 n4 n5 n6
    have hlnb := heap_lt hnz
    clear hQz hnz
    go_wp2_with fail
    refine bodyPost_ret (res_ct rfl rfl HE.out.1 Try.underlying95 rfl (by kernel_rfl)) rfl ?_
    exact HE.out.2
end Go.Proofs.Ytogejjbclimjjaa
