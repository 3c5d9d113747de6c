/- 'done' of a Program; and of any operation. -/
--only r2
import Derived.Test.YtphnjiokihbhnaaTwo
namespace Go.Proofs.Ytphnjiokihbhnaa
set_option linter.unusedVariables false
set_option linter.unusedSimpArgs false
open Go.RowKit

theorem DoneEnds.after {z : Nat} {w w0 w2 : World} {La Lm : NdLay} {A B : Nd} {o : POp} {e : Ending} (hb : Only (fun x => La.S x ∨ Lm.S x) w w0) (h : DoneEnds z w0 La Lm A B o e w2) : DoneEnds z w La Lm A B o e w2 := by
  obtain ⟨r, La', Lm', h1, h2, h3, h4, h5, h6, h7⟩ := h
  exact ⟨r, La', Lm', h1, h2, h3, h4, h5, hb.trans h6 fun _ _ h => h, fun x hx => (h7 x hx).imp_right fun h => Nat.le_trans hb.size h⟩
theorem u8_sum (d : UInt8) (k : Nat) : ((d.toNat : Int) + (k : Int)) % 256 = ((d + UInt8.ofNat k).toNat : Int) := by
  rw [UInt8.toNat_add, UInt8.toNat_ofNat']
  omega
theorem bytes_short (k c b p : Int) (d : UInt8) : POp.bytes ⟨k, c, b, p, d, true⟩ = ((List.range 256).map fun i => d + UInt8.ofNat i).take 255 := by simp only [POp.bytes, if_true, POp.all]
theorem bytes_long (k c b p : Int) (d : UInt8) : POp.bytes ⟨k, c, b, p, d, false⟩ = (List.range 256).map fun i => d + UInt8.ofNat i := by simp only [POp.bytes, Bool.false_eq_true, if_false, POp.all]

set_option maxRecDepth 100000 in
set_option maxHeartbeats 2000000 in
theorem done_prog {z : Nat} {w : World} {La Lm : NdLay} {A B : Nd} (h : Two z w La Lm A B) (o : POp) (ho : o.Ok) (hk : o.kind = 2) (hA : A.ops < 1000000) (hB : B.ops < 1000000) :
    Calls Try.prog 16 #[ptrV La.p, ptrV Lm.p, opV o] w (DoneEnds z w La Lm A B o) := by
  have hd : ∀ M : Nd, M.done o = (M.program o.chip o.block o.page o.bytes o.beside).1 := fun M => by
    unfold Nd.done
    rw [if_neg (by omega), if_pos hk]
  obtain ⟨h0, hfin, hQ, hq1, hq2⟩ := done_start h o
  have hfin2 := fun r w2 (hh : DoneEnds z (w.alloc (.cells (opCells o) 43)) La Lm A B o (.returned (.bool r)) w2) => hfin w2 _ hh
  clear hfin h
  generalize DoneEnds z w La Lm A B o = Post at hfin2 ⊢
  have HF := Lib.hid hfin2
  have HD := Lib.hid hd
  clear hfin2 hd
  obtain ⟨k, c, b, p, d, s⟩ := o
  obtain rfl : k = 2 := hk
  simp only [opV, opCells] at h0 HF hQ HD ⊢
  obtain ⟨hi0, hi1, hi2, hi3⟩ := ho
  simp only at hi1 hi2 hi3
  generalize hw0 : w.alloc (.cells #[.int .i64 2, .int .i64 c, .int .i64 b, .int .i64 p, u8v d, .bool s] 43) = w0 at h0 HF hQ
  obtain ⟨q, hq⟩ : ∃ q, q = w.heap.size := ⟨_, rfl⟩
  have HW := Lib.hid hw0
  clear hw0
  have hQ : OpAt q 2 c b p d s w0 := by rw [hq]; exact hQ
  go_enter Try.func16, Try.ntmps16
  go_wp2_with fail
  rw [HW.out, ← hq]
  rw [← hq] at hq1 hq2
  clear hq HW
  refine (zeros_calls 256 w0 (by omega)).mono ?_
  rintro e w1 ⟨rfl, hw1⟩
  have hb1 : Below w0.heap.size w0 w1 := by rw [hw1]; exact (Below.refl _ _).alloc (Nat.le_refl _) _
  have hr1 : w1.heap[w0.heap.size]? = some (.cells ((fillTo (fun i => d + UInt8.ofNat i) 256 0).map u8v).toArray 5 (0, 0)) := by
    rw [hw1, fillTo_zero, rep_u8]; exact heap_new _ _
  clear hw1
  have hqw : q < w0.heap.size := heap_lt hQ
  obtain ⟨r, hr⟩ : ∃ r, r = w0.heap.size := ⟨_, rfl⟩
  rw [← hr] at hr1 ⊢
  have HR := Lib.hid hr
  clear hr
  go_wp2_with fail
  go_loopw [13] (fun i wr => ∃ k : Nat, k ≤ 256 ∧ i = .int .i64 k ∧ wr.heap[r]? = some (.cells ((fillTo (fun i => d + UInt8.ofNat i) 256 k).map u8v).toArray 5 (0, 0)) ∧ Below w0.heap.size w0 wr) (fun i _ => 256 - (intOf i).toNat)
  case atStart => exact ⟨0, Nat.zero_le _, rfl, hr1, hb1⟩
  case round =>
    clear hr1 hb1
    obtain ⟨k, hk, rfl, hr1, hb1⟩ := hrel
    have hQ1 : OpAt q 2 c b p d s wr := heap_keep hb1 hQ
    by_cases hlt : k < 256
    · obtain ⟨c0, hc0⟩ := fillTo_cell hr1 hlt
      have hf := froz_at hr1 k
      have s4 := OpAt.d wr hQ1
      have hlq := cell_lt s4
      have hlr := heap_lt hr1
      have hlt' : (k : Int) < 256 := by omega
      have HB := Lib.hid hr1
      clear hr1
      go_wp2_with fail
      go_roundw
      case rel =>
        refine ⟨k + 1, by omega, by go_num, ?_, hb1.setCell (by rw [← HR.out]; exact Nat.le_refl _) _⟩
        rw [u8_sum d k, ← fillTo_set _ _ _ hlt]
        exact set_at HB.out _
      case measure => simp [intOf]; omega
    · obtain rfl : k = 256 := by omega
      rw [fillTo_all] at hr1
      have h1 := h0.below hb1
      have hO01 := Only.new hb1 (fun x => La.S x ∨ Lm.S x)
      have s5 := OpAt.s wr hQ1
      have s4 := OpAt.d wr hQ1
      have hlq := cell_lt s4
      have hlr := heap_lt hr1
      rw [show ((256 : Nat) : Int) = 256 from rfl]
      have hD1 : s = true → RB wr (.slice (some ⟨r, 0, none⟩) 255 256) (POp.bytes ⟨2, c, b, p, d, s⟩) := fun e => by
        subst e; rw [bytes_short]
        refine RV.block hr1 (by simp) (by omega) (by unfold maxLen; omega) (by simp [List.map_take])
      have hD0 : s = false → RB wr (.slice (some ⟨r, 0, none⟩) 256 256) (POp.bytes ⟨2, c, b, p, d, s⟩) := fun e => by
        subst e; rw [bytes_long]
        exact RB.block hr1 (by simp) (Nat.le_refl _) (by unfold maxLen; omega)
      have hDl : (POp.bytes ⟨2, c, b, p, d, s⟩).length ≤ 256 := by
        cases s
        · rw [bytes_long]; simp
        · rw [bytes_short]; simp
      clear hb1
      have HR1 := Lib.hid hr1
      clear hr1
      cases s
      · have hD := hD0 rfl
        clear hD0 hD1
        go_wp2_with fail
        refine (pad_calls _ [d, 7] 64 _ (show RB _ _ [d, 7] from RB.block (n := 2) (cap := 2) (heap_new _ _) rfl (Nat.le_refl _) (by unfold maxLen; omega)) (by simp) (by omega)).mono ?_
        rintro e w3 ⟨x, rfl, hx, hb3⟩
        have hb13 : Below wr.heap.size wr w3 := ((Below.refl _ _).alloc (Nat.le_refl _) (.cells #[u8v d, .int .u8 7] 5)).trans (hb3.mono (by simp))
        replace hx : RB w3 x (POp.beside ⟨2, c, b, p, d, false⟩) := RV.own hx
        have h3 := h1.below hb13
        have hD3 := hD.below hb13
        have hQ3 : OpAt q 2 c b p d false w3 := heap_keep hb13 hQ1
        have hO03 := hO01.trans (Only.new hb13 (fun x => La.S x ∨ Lm.S x)) fun _ _ h => h
        obtain ⟨xa, xc, rfl, -, -⟩ := hx.form
        have hxl : (POp.beside ⟨2, c, b, p, d, false⟩).length = 64 := by simp [POp.beside]
        rw [hxl] at hx ⊢
        have HXL := Lib.hid hxl
        clear hb13 hb3 hD h1 hO01 hxl s4 s5 hQ hQ1
        have s1 := OpAt.c (q := q) (k := 2) (c := c) (b := b) (p := p) (d := d) (s := false)
        have s2 := OpAt.b (q := q) (k := 2) (c := c) (b := b) (p := p) (d := d) (s := false)
        have s3 := OpAt.p (q := q) (k := 2) (c := c) (b := b) (p := p) (d := d) (s := false)
        go_wp2_with fail
        (refine wp_region_mix [0, 1, 2, 3, 4, 5, 6, 7, 8, 10, 11, 12, 13, 14, 15, 16, 17, 18, 9, 19, 20, 21] [(true, true), (true, true), (true, false), (true, true), (true, false), (true, true), (true, false), (true, true), (true, true), (true, true), (true, true), (true, false), (true, true), (true, false), (true, true), (true, false), (true, true), (true, true), (false, true), (false, false), (true, true), (true, true)] [0, 0, 2, 0, 8, 0, 32, 0, 0, 511, 0, 0, 2048, 0, 8192, 0, 32768, 0, 0, 524287, 1048575, 2097151] (OpAt q 2 c b p d false) (by kernel_rfl) (by kernel_rfl) ?_ ?_; rotate_left; simp only [pickL, List.map_cons, List.map_nil, List.getD_cons_succ, List.getD_cons_zero])
        rotate_left
        focus exact hQ3
        (repeat (first | (refine mix_pure (fun hne K hK => ?_); go_simp; refine hK _ ?_; clear hK K hne) | (refine mix_load ?_ (fun K hK => ?_); (focus (first | rfl | (go_simp; done))); apply Exists.intro; apply And.intro; (focus (intro w' hC; go_simp; exact rfl)); go_simp; refine hK _ ?_; clear hK K) | (refine mix_skip ?_ (fun K hK => ?_); (focus (first | rfl | (go_simp; done))); go_simp; refine hK _ ?_; clear hK K)))
        (refine mix_one (by first | rfl | (go_simp; done)) (fun R hR hX => ?_))
        go_wp2_with fail
        have hc1 := nprog_calls h3.drew.a c b p _ _ _ _ hi1 hi2 hi3 (hD3.below (Below.refl _ _).drew) (hx.below (Below.refl _ _).drew) (by omega) (by rw [HXL.out]; omega) hA
        refine hc1.mono ?_
        rintro e w4 ⟨La', hL, rfl, hN4, hO4⟩
        have hO4' := (Only.of_drew La.S w3).trans hO4 fun _ _ h => h
        have h4 := h3.stepA hL hN4 hO4'
        have hQ4 := hQ3.only hO4' (NdLay.not_S hq1)
        have hD4 := hD3.only hO4' (fun x _ hx => h3.a.noByte hx)
        have hx4 := hx.only hO4' (fun x _ hx => h3.a.noByte hx)
        clear hc1
        go_wp2_with fail
        refine hR _ _ rfl ⟨_, hQ4, fun _ => rfl, ?_⟩
        clear hR hX R
        (repeat (first | (refine mix_pure (fun hne K hK => ?_); go_simp; refine hK _ ?_; clear hK K hne) | (refine mix_load ?_ (fun K hK => ?_); (focus (first | rfl | (go_simp; done))); apply Exists.intro; apply And.intro; (focus (intro w' hC; go_simp; exact rfl)); go_simp; refine hK _ ?_; clear hK K) | (refine mix_skip ?_ (fun K hK => ?_); (focus (first | rfl | (go_simp; done))); go_simp; refine hK _ ?_; clear hK K)))
        (refine mix_one (by first | rfl | (go_simp; done)) (fun R hR hX => ?_))
        go_wp2_with fail
        refine (rprog_calls h4.m c b p _ _ _ _ hi1 hi2 hi3 hD4 hx4 (by omega) (by rw [HXL.out]; omega) hB).mono ?_
        rintro e w5 ⟨Lm', hF, rfl, hN5, hO5⟩
        have hQ5 := hQ4.only hO5 (NdLay.not_S hq2)
        have HX := Lib.hid (fun (r : Bool) (hr : A = B → r = true) => HF.out r _ (DoneEnds.after hO03 (DoneEnds.mk' h3 (HD.out A) (HD.out B) hr hL hN4 hO4' (FromLay.same hF) hN5 hO5)))
        clear h0 h3 h4 hN4 hN5 hO4 hO4' hO5 hL hF hQ3 hQ4 hD3 hD4 hx hx4 hO03
        go_wp2_with fail
        refine hR _ _ rfl ⟨_, hQ5, fun _ => rfl, ?_⟩
        clear hR hX R
        (repeat (first | (refine mix_pure (fun hne K hK => ?_); go_simp; refine hK _ ?_; clear hK K hne) | (refine mix_load ?_ (fun K hK => ?_); (focus (first | rfl | (go_simp; done))); apply Exists.intro; apply And.intro; (focus (intro w' hC; go_simp; exact rfl)); go_simp; refine hK _ ?_; clear hK K) | (refine mix_skip ?_ (fun K hK => ?_); (focus (first | rfl | (go_simp; done))); go_simp; refine hK _ ?_; clear hK K)))
        refine mix_done ?_
        go_wp2_with fail
        exact HX.out _ (fun hh => by rw [hh]; simp)
      · have hD := hD1 rfl
        clear hD0 hD1
        go_wp2_with fail
        refine (pad_calls _ [d, 7] 64 _ (show RB _ _ [d, 7] from RB.block (n := 2) (cap := 2) (heap_new _ _) rfl (Nat.le_refl _) (by unfold maxLen; omega)) (by simp) (by omega)).mono ?_
        rintro e w3 ⟨x, rfl, hx, hb3⟩
        have hb13 : Below wr.heap.size wr w3 := ((Below.refl _ _).alloc (Nat.le_refl _) (.cells #[u8v d, .int .u8 7] 5)).trans (hb3.mono (by simp))
        replace hx : RB w3 x (POp.beside ⟨2, c, b, p, d, true⟩) := RV.own hx
        have h3 := h1.below hb13
        have hD3 := hD.below hb13
        have hQ3 : OpAt q 2 c b p d true w3 := heap_keep hb13 hQ1
        have hO03 := hO01.trans (Only.new hb13 (fun x => La.S x ∨ Lm.S x)) fun _ _ h => h
        obtain ⟨xa, xc, rfl, -, -⟩ := hx.form
        have hxl : (POp.beside ⟨2, c, b, p, d, true⟩).length = 64 := by simp [POp.beside]
        rw [hxl] at hx ⊢
        have HXL := Lib.hid hxl
        clear hb13 hb3 hD h1 hO01 hxl s4 s5 hQ hQ1
        have s1 := OpAt.c (q := q) (k := 2) (c := c) (b := b) (p := p) (d := d) (s := true)
        have s2 := OpAt.b (q := q) (k := 2) (c := c) (b := b) (p := p) (d := d) (s := true)
        have s3 := OpAt.p (q := q) (k := 2) (c := c) (b := b) (p := p) (d := d) (s := true)
        go_wp2_with fail
        (refine wp_region_mix [0, 1, 2, 3, 4, 5, 6, 7, 8, 10, 11, 12, 13, 14, 15, 16, 17, 18, 9, 19, 20, 21] [(true, true), (true, true), (true, false), (true, true), (true, false), (true, true), (true, false), (true, true), (true, true), (true, true), (true, true), (true, false), (true, true), (true, false), (true, true), (true, false), (true, true), (true, true), (false, true), (false, false), (true, true), (true, true)] [0, 0, 2, 0, 8, 0, 32, 0, 0, 511, 0, 0, 2048, 0, 8192, 0, 32768, 0, 0, 524287, 1048575, 2097151] (OpAt q 2 c b p d true) (by kernel_rfl) (by kernel_rfl) ?_ ?_; rotate_left; simp only [pickL, List.map_cons, List.map_nil, List.getD_cons_succ, List.getD_cons_zero])
        rotate_left
        focus exact hQ3
        (repeat (first | (refine mix_pure (fun hne K hK => ?_); go_simp; refine hK _ ?_; clear hK K hne) | (refine mix_load ?_ (fun K hK => ?_); (focus (first | rfl | (go_simp; done))); apply Exists.intro; apply And.intro; (focus (intro w' hC; go_simp; exact rfl)); go_simp; refine hK _ ?_; clear hK K) | (refine mix_skip ?_ (fun K hK => ?_); (focus (first | rfl | (go_simp; done))); go_simp; refine hK _ ?_; clear hK K)))
        (refine mix_one (by first | rfl | (go_simp; done)) (fun R hR hX => ?_))
        go_wp2_with fail
        have hc1 := nprog_calls h3.drew.a c b p _ _ _ _ hi1 hi2 hi3 (hD3.below (Below.refl _ _).drew) (hx.below (Below.refl _ _).drew) (by omega) (by rw [HXL.out]; omega) hA
        refine hc1.mono ?_
        rintro e w4 ⟨La', hL, rfl, hN4, hO4⟩
        have hO4' := (Only.of_drew La.S w3).trans hO4 fun _ _ h => h
        have h4 := h3.stepA hL hN4 hO4'
        have hQ4 := hQ3.only hO4' (NdLay.not_S hq1)
        have hD4 := hD3.only hO4' (fun x _ hx => h3.a.noByte hx)
        have hx4 := hx.only hO4' (fun x _ hx => h3.a.noByte hx)
        clear hc1
        go_wp2_with fail
        refine hR _ _ rfl ⟨_, hQ4, fun _ => rfl, ?_⟩
        clear hR hX R
        (repeat (first | (refine mix_pure (fun hne K hK => ?_); go_simp; refine hK _ ?_; clear hK K hne) | (refine mix_load ?_ (fun K hK => ?_); (focus (first | rfl | (go_simp; done))); apply Exists.intro; apply And.intro; (focus (intro w' hC; go_simp; exact rfl)); go_simp; refine hK _ ?_; clear hK K) | (refine mix_skip ?_ (fun K hK => ?_); (focus (first | rfl | (go_simp; done))); go_simp; refine hK _ ?_; clear hK K)))
        (refine mix_one (by first | rfl | (go_simp; done)) (fun R hR hX => ?_))
        go_wp2_with fail
        refine (rprog_calls h4.m c b p _ _ _ _ hi1 hi2 hi3 hD4 hx4 (by omega) (by rw [HXL.out]; omega) hB).mono ?_
        rintro e w5 ⟨Lm', hF, rfl, hN5, hO5⟩
        have hQ5 := hQ4.only hO5 (NdLay.not_S hq2)
        have HX := Lib.hid (fun (r : Bool) (hr : A = B → r = true) => HF.out r _ (DoneEnds.after hO03 (DoneEnds.mk' h3 (HD.out A) (HD.out B) hr hL hN4 hO4' (FromLay.same hF) hN5 hO5)))
        clear h0 h3 h4 hN4 hN5 hO4 hO4' hO5 hL hF hQ3 hQ4 hD3 hD4 hx hx4 hO03
        go_wp2_with fail
        refine hR _ _ rfl ⟨_, hQ5, fun _ => rfl, ?_⟩
        clear hR hX R
        (repeat (first | (refine mix_pure (fun hne K hK => ?_); go_simp; refine hK _ ?_; clear hK K hne) | (refine mix_load ?_ (fun K hK => ?_); (focus (first | rfl | (go_simp; done))); apply Exists.intro; apply And.intro; (focus (intro w' hC; go_simp; exact rfl)); go_simp; refine hK _ ?_; clear hK K) | (refine mix_skip ?_ (fun K hK => ?_); (focus (first | rfl | (go_simp; done))); go_simp; refine hK _ ?_; clear hK K)))
        refine mix_done ?_
        go_wp2_with fail
        exact HX.out _ (fun hh => by rw [hh]; simp)

theorem done_calls {z : Nat} {w : World} {La Lm : NdLay} {A B : Nd} (h : Two z w La Lm A B) (o : POp) (ho : o.Ok) (hA : A.ops < 1000000) (hB : B.ops < 1000000) :
    Calls Try.prog 16 #[ptrV La.p, ptrV Lm.p, opV o] w (DoneEnds z w La Lm A B o) := by
  by_cases h1 : o.kind = 1
  · exact done_read h o ho h1 hA hB
  by_cases h2 : o.kind = 2
  · exact done_prog h o ho h2 hA hB
  by_cases h3 : o.kind = 3
  · exact done_erase h o ho h3 hA hB
  by_cases h4 : o.kind = 4
  · exact done_boot h o ho h4
  by_cases h5 : o.kind = 5
  · exact done_kill h o ho h5
  exact done_other h o ho (by omega)
end Go.Proofs.Ytphnjiokihbhnaa
