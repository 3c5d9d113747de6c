/- gabionref04: an operation begins. -/
--only r2
import Derived.Test.YtphnjiokihbhnaaRefAt
import Derived.Deep.DeepCutAuto
namespace Go.Proofs.Ytphnjiokihbhnaa
set_option linter.unusedVariables false
set_option linter.unusedSimpArgs false
open Go.RowKit

/-- what the reference's 'begin' is to end in -/
def RBeginEnds (w : World) (L : NdLay) (M : Nd) (c b : Int) (e : Ending) (w' : World) : Prop :=
  ∃ v, e = .returned (.tuple #[evV (M.begin c b).2.1 v, .int .i64 (M.begin c b).2.2]) ∧ RB w' v (M.begin c b).2.1.left ∧ NdAt false w' L (M.begin c b).1 ∧ Only L.S w w'
theorem NdAt.box' {pr : Bool} {w : World} {L : NdLay} {M : Nd} (h : NdAt pr w L M) {r : Nat} (hn : NoByte w r) (hL : L.tag r = .none) (u0 u1 u2 u3 : Value) :
    NdAt pr ((((w.setCell ⟨r, 0, none⟩ u0).setCell ⟨r, 1, none⟩ u1).setCell ⟨r, 2, none⟩ u2).setCell ⟨r, 3, none⟩ u3) L M :=
  h.frame (only4 w r u0 u1 u2 u3) (fun b _ e => by rw [e]; exact hL) (fun b _ e => by rw [e]; exact hn)
theorem noByte4' {w : World} {r : Nat} {t : TypeId} {fz : Nat × Nat} (h : w.heap[r]? = some (.cells #[.int .i64 0, .int .i64 0, .int .i64 0, .slice none 0 0] t fz)) : NoByte w r :=
  res_box h (nb_i64 _) (nb_i64 _) (nb_i64 _) (nb_slice _ _ _)
theorem rbegin_is {w w' : World} {L : NdLay} {M M1 : Nd} {c b : Int} {x : Ev} {n : Nat} {v : Value} (h : M.begin c b = (M1, x, n)) (hv : RB w' v x.left) (hN : NdAt false w' L M1) (hO : Only L.S w w') :
    RBeginEnds w L M c b (.returned (.tuple #[evV x v, .int .i64 n])) w' := by
  refine ⟨v, ?_, ?_, ?_, hO⟩ <;> rw [h]
  · exact hv
  · exact hN
theorem rbegin_end {w wc : World} {L : NdLay} {M M1 : Nd} {c b : Int} {x : Ev} {n : Nat} {v : Value} {r : Nat} (hN : NdAt false wc L M1) (hL : L.tag r = .none) (hr : wc.heap[r]? = some (.cells #[.int .i64 0, .int .i64 0, .int .i64 0, .slice none 0 0] 103 (0, 0)))
    (hO : Only L.S w wc) (hw : w.heap.size ≤ r) (hv : RB wc v x.left) (h : M.begin c b = (M1, x, n)) {Post : Ending → World → Prop} (hP : RBeginEnds w L M c b = Post) :
    Post (.returned (.tuple #[evV x v, .int .i64 n])) ((((wc.setCell ⟨r, 0, none⟩ (.int .i64 x.op)).setCell ⟨r, 1, none⟩ (.int .i64 x.kind)).setCell ⟨r, 2, none⟩ (.int .i64 x.chip)).setCell ⟨r, 3, none⟩ v) := by
  rw [← hP]
  refine rbegin_is h (hv.only (only4 wc r _ _ _ _) fun b _ e => by rw [e]; exact noByte4' hr) (hN.box' (noByte4' hr) hL _ _ _ _) (hO.trans (only4 wc r _ _ _ _) fun b hb e => by omega)

set_option maxRecDepth 100000 in
set_option maxHeartbeats 1000000 in
theorem rbegin_out {w : World} {L : NdLay} {M : Nd} (h : NdAt false w L M) (c b : Int) (hc : I64 c) (hb : I64 b) (hno : M.off = true ∨ ¬ M.inside c b) :
    Calls Try.prog 57 #[ptrV L.p, .int .i64 c, .int .i64 b] w (RBeginEnds w L M c b) := by
  have hT := h.top
  simp only [topCells, Bool.false_eq_true, if_false] at hT
  have hm := h.ok.mem
  have hk := h.ok.blk
  (have hT_0 := cells_at hT 0 _ rfl; have hT_1 := cells_at hT 1 _ rfl; have hT_2 := cells_at hT 2 _ rfl; have hT_3 := cells_at hT 3 _ rfl; have hT_4 := cells_at hT 4 _ rfl; have hT_5 := cells_at hT 5 _ rfl; have hT_6 := cells_at hT 6 _ rfl; have hT_7 := cells_at hT 7 _ rfl; have hT_8 := cells_at hT 8 _ rfl)
  have hlt := heap_lt hT
  have hR : (w.alloc (.cells #[.int .i64 0, .int .i64 0, .int .i64 0, .slice none 0 0] 103)).heap[w.heap.size]? = some (.cells #[.int .i64 0, .int .i64 0, .int .i64 0, .slice none 0 0] 103 (0, 0)) := heap_is rfl
  have hN := h.below (((Below.refl w.heap.size w).alloc (Nat.le_refl _) (.cells #[.int .i64 0, .int .i64 0, .int .i64 0, .slice none 0 0] 103)))
  have hO := Only.of_alloc L.S w (.cells #[.int .i64 0, .int .i64 0, .int .i64 0, .slice none 0 0] 103)
  have hfin : ∀ n : Nat, M.begin c b = (M, .zero, n) → RBeginEnds w L M c b (.returned (.tuple #[evZ, .int .i64 n])) (w.alloc (.cells #[.int .i64 0, .int .i64 0, .int .i64 0, .slice none 0 0] 103)) := fun n hn => rbegin_is (v := .slice none 0 0) hn (RB.nil _) hN hO
  have HF := Lib.hid hfin
  clear hfin
  by_cases hoff : M.off = true
  · have he : M.begin c b = (M, .zero, 72) := by unfold Nd.begin; rw [if_pos hoff]
    have HE := Lib.hid he
    rw [hoff] at hT_8
    clear he hno hoff
    go_enter Try.func57, Try.ntmps57
    go_wp2_with fail
    exact bodyPost_ret (res_ct rfl rfl hR Try.underlying103 rfl (by kernel_rfl)) rfl (HF.out 72 HE.out)
  · have hin : ¬ M.inside c b := hno.resolve_left hoff
    have hoff' : M.off = false := by simpa using hoff
    have he : M.begin c b = (M, .zero, 34) := by unfold Nd.begin; rw [if_neg hoff, if_pos hin]
    have HE := Lib.hid he
    rw [hoff'] at hT_8
    have HR := Lib.hid hR
    clear he hno hoff hoff' hR hN hO
    have hbad : c < 0 ∨ (0 ≤ c ∧ (M.mem : Int) < c) ∨ (0 ≤ c ∧ c ≤ M.mem ∧ b < 0) ∨ (0 ≤ c ∧ c ≤ M.mem ∧ 0 ≤ b ∧ (M.blk : Int) ≤ b) := by unfold Nd.inside at hin; omega
    clear hin
    rcases hbad with h1 | ⟨h1, h2⟩ | ⟨h1, h2, h3⟩ | ⟨h1, h2, h3, h4⟩
    · go_enter Try.func57, Try.ntmps57
      go_wp2_with fail
      exact bodyPost_ret (res_ct rfl rfl HR.out Try.underlying103 rfl (by kernel_rfl)) rfl (HF.out 34 HE.out)
    · have e1 : decide (c < 0) = false := by simp; omega
      go_enter Try.func57, Try.ntmps57
      go_wp2_with fail
      exact bodyPost_ret (res_ct rfl rfl HR.out Try.underlying103 rfl (by kernel_rfl)) rfl (HF.out 34 HE.out)
    · have e1 : decide (c < 0) = false := by simp; omega
      have e2 : decide ((M.mem : Int) < c) = false := by simp; omega
      go_enter Try.func57, Try.ntmps57
      go_wp2_with fail
      exact bodyPost_ret (res_ct rfl rfl HR.out Try.underlying103 rfl (by kernel_rfl)) rfl (HF.out 34 HE.out)
    · have e1 : decide (c < 0) = false := by simp; omega
      have e2 : decide ((M.mem : Int) < c) = false := by simp; omega
      have e3 : decide (b < 0) = false := by simp; omega
      go_enter Try.func57, Try.ntmps57
      go_wp2_with fail
      exact bodyPost_ret (res_ct rfl rfl HR.out Try.underlying103 rfl (by kernel_rfl)) rfl (HF.out 34 HE.out)

set_option maxRecDepth 100000 in
set_option maxHeartbeats 4000000 in
theorem rbegin_in {w : World} {L : NdLay} {M : Nd} (h : NdAt false w L M) (c b : Nat) (hc : c ≤ M.mem) (hb : b < M.blk) (hoff : M.off = false) (hops : M.ops < 1000000) :
    Calls Try.prog 57 #[ptrV L.p, .int .i64 c, .int .i64 b] w (RBeginEnds w L M c b) := by
  have hT := h.top
  simp only [topCells, Bool.false_eq_true, if_false] at hT
  have hm := h.ok.mem
  have hk := h.ok.blk
  have hTf := froz_at hT 7
  (have hT_0 := cells_at hT 0 _ rfl; have hT_1 := cells_at hT 1 _ rfl; have hT_2 := cells_at hT 2 _ rfl; have hT_3 := cells_at hT 3 _ rfl; have hT_4 := cells_at hT 4 _ rfl; have hT_5 := cells_at hT 5 _ rfl; have hT_6 := cells_at hT 6 _ rfl; have hT_7 := cells_at hT 7 _ rfl; have hT_8 := cells_at hT 8 _ rfl)
  have hlt := heap_lt hT
  have hpR : L.p ≠ w.heap.size := by omega
  rw [hoff] at hT_8
  have HOFF := Lib.hid hoff
  clear hoff
  have d1 : decide ((M.mem : Int) < c) = false := by simp; omega
  have d2 : decide ((M.blk : Int) ≤ b) = false := by simp; omega
  have d3 : decide ((c : Int) < 0) = false := by simp
  have d4 : decide ((b : Int) < 0) = false := by simp
  have d5 : ¬ M.mem < c := by omega
  have d6 : ¬ M.blk ≤ b := by omega
  obtain ⟨r, hr⟩ : ∃ r, r = w.heap.size := ⟨_, rfl⟩
  have hN1 : NdAt false ((w.setCell ⟨L.p, 7, none⟩ (.int .i64 (M.ops + 1 : Int))).alloc (.cells #[.int .i64 0, .int .i64 0, .int .i64 0, .slice none 0 0] 103)) L { M with ops := M.ops + 1 } := by
    have := (h.setOps (n := M.ops + 1) (by omega) (by omega)).below (((Below.refl _ _).alloc (Nat.le_refl _) (.cells #[.int .i64 0, .int .i64 0, .int .i64 0, .slice none 0 0] 103)))
    rw [Int.natCast_add] at this; exact this
  have hO1 : Only L.S w ((w.setCell ⟨L.p, 7, none⟩ (.int .i64 (M.ops + 1 : Int))).alloc (.cells #[.int .i64 0, .int .i64 0, .int .i64 0, .slice none 0 0] 103)) :=
    ((Only.refl L.S w).set ⟨L.p, 7, none⟩ _ (fun _ => h.Sp)).alloc _
  have hR1 : ((w.setCell ⟨L.p, 7, none⟩ (.int .i64 (M.ops + 1 : Int))).alloc (.cells #[.int .i64 0, .int .i64 0, .int .i64 0, .slice none 0 0] 103)).heap[r]? = some (.cells #[.int .i64 0, .int .i64 0, .int .i64 0, .slice none 0 0] 103 (0, 0)) := heap_is (by rw [hr, size_set])
  have hLr : L.tag r = .none := h.fresh (by omega)
  have hwr : w.heap.size ≤ r := by omega
  have HWR := Lib.hid hwr
  clear hwr
  generalize hPost : RBeginEnds w L M c b = Post
  have HPOST := Lib.hid hPost
  clear hPost
  go_enter Try.func57, Try.ntmps57
  go_wp2_with fail
  rw [← hr]
  clear hr hT_0 hT_1 hT_2 hT_3 hT_4 hT_5 hT_6 hT_7 hT_8 hTf hT hlt hpR h d1 d2 d5 d6
  generalize ((w.setCell ⟨L.p, 7, none⟩ (.int .i64 (M.ops + 1 : Int))).alloc (.cells #[.int .i64 0, .int .i64 0, .int .i64 0, .slice none 0 0] 103)) = w1 at hN1 hO1 hR1 ⊢
  refine (rcomes_calls hN1).mono ?_
  rintro e w2 ⟨v, rfl, hv, hb2⟩
  have hN2 := hN1.below hb2
  have hR2 := heap_keep hb2 hR1
  have hO2 := hO1.trans (Only.new hb2 fun _ => False) fun _ _ => False.elim
  have hbeg : M.begin c b = (let M2 := Nd.die { M with ops := M.ops + 1 } (comesOf M.evs (M.ops + 1)); if M2.gone c then (if (comesOf M.evs (M.ops + 1)).kind = 2 then ({ M2 with off := true }, .zero, 72) else (M2, .zero, 71)) else (M2, comesOf M.evs (M.ops + 1), 0)) := by
    unfold Nd.begin
    rw [if_neg (by rw [HOFF.out]; simp), if_neg (by unfold Nd.inside; omega)]; rfl
  have HB := Lib.hid hbeg
  have hev := hN1.ok.left
  have hxi : I64 (comesOf M.evs (M.ops + 1)).op ∧ I64 (comesOf M.evs (M.ops + 1)).kind ∧ I64 (comesOf M.evs (M.ops + 1)).chip := by
    unfold comesOf
    cases hf : M.evs.find? (Ev.now (M.ops + 1)) with
    | none => decide
    | some y => exact (hev y (List.mem_of_find?_eq_some hf)).2
  clear hN1 hO1 hR1 hb2 hbeg hev
  obtain ⟨va, vc, rfl, -, -⟩ := hv.form
  generalize hx : comesOf M.evs (M.ops + 1) = x at HB hv hxi ⊢
  obtain ⟨xo, xk, xc, xl⟩ := x
  simp only at hv hxi
  clear hx
  simp only [evV]
  obtain ⟨q, hq⟩ : ∃ q, q = w2.heap.size := ⟨_, rfl⟩
  have hQ : (w2.alloc (.cells #[.int .i64 xo, .int .i64 xk, .int .i64 xc, .slice va xl.length vc] 103)).heap[q]? = some (.cells #[.int .i64 xo, .int .i64 xk, .int .i64 xc, .slice va xl.length vc] 103 (0, 0)) := heap_is hq
  have hb3 := (Below.refl w2.heap.size w2).alloc (Nat.le_refl _) (.cells #[.int .i64 xo, .int .i64 xk, .int .i64 xc, .slice va xl.length vc] 103)
  have hLq : L.tag q = .none := hN2.fresh (by omega)
  go_wp2_with fail
  rw [← hq]
  clear hq
  generalize w2.alloc (.cells #[.int .i64 xo, .int .i64 xk, .int .i64 xc, .slice va xl.length vc] 103) = w3 at hQ hb3 ⊢
  have hN3 := hN2.below hb3
  have hR3 := heap_keep hb3 hR2
  have hO3 := hO2.trans (Only.new hb3 fun _ => False) fun _ _ => False.elim
  have hv3 := hv.below hb3
  clear hN2 hR2 hO2 hv hb3
  obtain ⟨M2, hM2⟩ : ∃ M2, M2 = Nd.die { M with ops := M.ops + 1 } ⟨xo, xk, xc, xl⟩ := ⟨_, rfl⟩
  have hdie : M2 = if xk = 3 ∧ 0 ≤ xc ∧ xc ≤ M.mem then { M with ops := M.ops + 1, gone := upd1 M.gone xc.toNat true } else { M with ops := M.ops + 1 } := hM2
  have HD := Lib.hid hdie
  rw [← hM2] at HB
  clear hM2 hdie
  have hdrew := Below.drew (Below.refl w3.heap.size w3)
  have HDR := Lib.hid hdrew
  clear hdrew
  obtain ⟨D, hDD⟩ : ∃ D, D = decide (xk = 3 ∧ 0 ≤ xc ∧ xc ≤ M.mem) := ⟨_, rfl⟩
  have HDD := Lib.hid hDD
  clear hDD
  go_cut [62] (fun s62 wx => s62 = .bool D ∧ Below w3.heap.size w3 wx)
  case first =>
    have hT := hN3.top
    simp only [topCells, Bool.false_eq_true, if_false] at hT
    have t0 := cells_at hT 0 _ rfl
    have q1 := cells_at hQ 1 _ rfl
    have q2 := cells_at hQ 2 _ rfl
    simp only [List.getElem_toArray, List.getElem_cons_succ, List.getElem_cons_zero] at t0 q1 q2
    clear hT hQ hN3 hR3 hO3 hv3 HB HD
    obtain ⟨-, hxk, hxc⟩ := hxi
    by_cases k3 : xk = 3
    · by_cases h0 : 0 ≤ xc
      · have e0 : decide (0 ≤ xc) = true := by simp; omega
        by_cases h1 : xc ≤ M.mem
        · have k3' : (xk == 3) = true := by simp [k3]
          have e1 : decide (xc ≤ (M.mem : Int)) = true := by simp; omega
          have K3 := Lib.hid k3
          clear k3
          (refine wp_region_mix [0, 1, 2, 3, 4, 5, 6, 7, 8, 9, 10, 11, 12, 13, 14, 15, 16] [(true, true), (true, false), (true, true), (true, true), (true, true), (true, false), (true, true), (true, true), (true, true), (true, true), (true, false), (true, true), (true, true), (true, true), (true, false), (true, true), (true, true)] [0, 1, 3, 7, 15, 31, 63, 127, 255, 511, 1023, 511, 2559, 6655, 14847, 32767, 65535] _ (by kernel_rfl) (by kernel_rfl) (rfl : _ = _) ?_; simp only [pickL, List.map_cons, List.map_nil, List.getD_cons_succ, List.getD_cons_zero])
          (repeat (first | (refine mix_pure (fun hne K hK => ?_); go_simp; refine hK _ ?_; clear hK K hne) | (refine mix_load ?_ (fun K hK => ?_); (focus (first | rfl | (go_simp; done))); go_simp; refine hK _ ?_; clear hK K) | (refine mix_skip ?_ (fun K hK => ?_); (focus (first | rfl | (go_simp; done))); go_simp; refine hK _ ?_; clear hK K)))
          refine mix_done ?_
          go_wp2_with fail
          go_meet
          exact ⟨by rw [HDD.out]; simp [K3.out, h0, h1], HDR.out⟩
        · have k3' : (xk == 3) = true := by simp [k3]
          have e1 : decide (xc ≤ (M.mem : Int)) = false := by simp; omega
          have K3 := Lib.hid k3
          clear k3
          (refine wp_region_mix [0, 1, 2, 3, 4, 5, 6, 7, 8, 9, 10, 11, 12, 13, 14, 15, 16] [(true, true), (true, false), (true, true), (true, true), (true, true), (true, false), (true, true), (true, true), (true, true), (true, true), (true, false), (true, true), (true, true), (true, true), (true, false), (true, true), (true, true)] [0, 1, 3, 7, 15, 31, 63, 127, 255, 511, 1023, 511, 2559, 6655, 14847, 32767, 65535] _ (by kernel_rfl) (by kernel_rfl) (rfl : _ = _) ?_; simp only [pickL, List.map_cons, List.map_nil, List.getD_cons_succ, List.getD_cons_zero])
          (repeat (first | (refine mix_pure (fun hne K hK => ?_); go_simp; refine hK _ ?_; clear hK K hne) | (refine mix_load ?_ (fun K hK => ?_); (focus (first | rfl | (go_simp; done))); go_simp; refine hK _ ?_; clear hK K) | (refine mix_skip ?_ (fun K hK => ?_); (focus (first | rfl | (go_simp; done))); go_simp; refine hK _ ?_; clear hK K)))
          refine mix_done ?_
          go_wp2_with fail
          go_meet
          exact ⟨by rw [HDD.out]; simp; omega, HDR.out⟩
      · have k3' : (xk == 3) = true := by simp [k3]
        have e0 : decide (0 ≤ xc) = false := by simp; omega
        have K3 := Lib.hid k3
        clear k3
        (refine wp_region_mix [0, 1, 2, 3, 4, 5, 6, 7, 8, 9, 10, 11, 12, 13, 14, 15, 16] [(true, true), (true, false), (true, true), (true, true), (true, true), (true, false), (true, true), (true, true), (true, true), (true, true), (true, false), (true, true), (true, true), (true, true), (true, false), (true, true), (true, true)] [0, 1, 3, 7, 15, 31, 63, 127, 255, 511, 1023, 511, 2559, 6655, 14847, 32767, 65535] _ (by kernel_rfl) (by kernel_rfl) (rfl : _ = _) ?_; simp only [pickL, List.map_cons, List.map_nil, List.getD_cons_succ, List.getD_cons_zero])
        (repeat (first | (refine mix_pure (fun hne K hK => ?_); go_simp; refine hK _ ?_; clear hK K hne) | (refine mix_load ?_ (fun K hK => ?_); (focus (first | rfl | (go_simp; done))); go_simp; refine hK _ ?_; clear hK K) | (refine mix_skip ?_ (fun K hK => ?_); (focus (first | rfl | (go_simp; done))); go_simp; refine hK _ ?_; clear hK K)))
        refine mix_done ?_
        go_wp2_with fail
        go_meet
        exact ⟨by rw [HDD.out]; simp; omega, HDR.out⟩
    · have k3' : (xk == 3) = false := by simp [k3]
      (refine wp_region_mix [0, 1, 2, 3, 4, 5, 6, 7, 8, 9, 10, 11, 12, 13, 14, 15, 16] [(true, true), (true, false), (true, true), (true, true), (true, true), (true, false), (true, true), (true, true), (true, true), (true, true), (true, false), (true, true), (true, true), (true, true), (true, false), (true, true), (true, true)] [0, 1, 3, 7, 15, 31, 63, 127, 255, 511, 1023, 511, 2559, 6655, 14847, 32767, 65535] _ (by kernel_rfl) (by kernel_rfl) (rfl : _ = _) ?_; simp only [pickL, List.map_cons, List.map_nil, List.getD_cons_succ, List.getD_cons_zero])
      (repeat (first | (refine mix_pure (fun hne K hK => ?_); go_simp; refine hK _ ?_; clear hK K hne) | (refine mix_load ?_ (fun K hK => ?_); (focus (first | rfl | (go_simp; done))); go_simp; refine hK _ ?_; clear hK K) | (refine mix_skip ?_ (fun K hK => ?_); (focus (first | rfl | (go_simp; done))); go_simp; refine hK _ ?_; clear hK K)))
      refine mix_done ?_
      go_wp2_with fail
      go_meet
      exact ⟨by rw [HDD.out]; simp [k3], HDR.out⟩
  case rest =>
    obtain ⟨rfl, hb4⟩ := hcut
    have hN4 := hN3.below hb4
    have hR4 := heap_keep hb4 hR3
    have hQ4 := heap_keep hb4 hQ
    have hO4 := hO3.trans (Only.new hb4 fun _ => False) fun _ _ => False.elim
    have hv4 := hv3.below hb4
    clear hN3 hR3 hQ hO3 hv3 hb4 HDR
    go_upto_if 62 with (fail)
    go_cut [] (fun wx => NdAt false wx L M2 ∧ wx.heap[r]? = some (.cells #[.int .i64 0, .int .i64 0, .int .i64 0, .slice none 0 0] 103 (0, 0)) ∧ wx.heap[q]? = some (.cells #[.int .i64 xo, .int .i64 xk, .int .i64 xc, .slice va xl.length vc] 103 (0, 0)) ∧ Only L.S w wx ∧ RB wx (.slice va xl.length vc) xl)
    case first =>
      have hT := hN4.top
      simp only [topCells, Bool.false_eq_true, if_false] at hT
      have t5 := cells_at hT 5 _ rfl
      have q2 := cells_at hQ4 2 _ rfl
      simp only [List.getElem_toArray, List.getElem_cons_succ, List.getElem_cons_zero] at t5 q2
      obtain ⟨-, hxk, hxc⟩ := hxi
      cases D with
      | true =>
        have hD := of_decide_eq_true HDD.out.symm
        obtain ⟨k3, h0, h1⟩ := hD
        obtain ⟨n, rfl⟩ : ∃ n : Nat, xc = n := ⟨xc.toNat, by omega⟩
        have hMM : M2 = { M with ops := M.ops + 1, gone := upd1 M.gone n true } := by rw [HD.out, if_pos ⟨k3, h0, h1⟩]; rfl
        have hcell := hN4.dead.cell (o := n) (show n < M.mem + 1 by omega)
        have hfz := hN4.dead.froz n
        have hset := hN4.setGone (c := n) (show n ≤ M.mem by omega) true
        have hO5 := hO4.set ⟨L.dd, n, none⟩ (.bool true) (fun _ => hN4.Sd)
        have hR5 := set_other (a := ⟨L.dd, n, none⟩) (.bool true) hR4 (hN4.ne_tag hLr hN4.td (by simp))
        have hQ5 := set_other (a := ⟨L.dd, n, none⟩) (.bool true) hQ4 (hN4.ne_tag hLq hN4.td (by simp))
        have hv5 := hv4.only (Only.of_set wc ⟨L.dd, n, none⟩ (.bool true)) (fun b _ e => by rw [e]; exact hN4.noByte hN4.Sd)
        rw [← hMM] at hset
        have hlt1 : (n : Int) < (M.mem : Int) + 1 := by omega
        have hnn : ¬ (n : Int) < 0 := by omega
        have HX := Lib.hid (⟨hset, hR5, hQ5, hO5, hv5⟩ : _ ∧ _ ∧ _ ∧ _ ∧ _)
        clear hT hN4 hR4 hQ4 hO4 hv4 HB HD k3 hMM hset hR5 hQ5 hO5 hv5 HDD
        go_wp2_with fail
        (refine wp_region_mix [0, 1, 2, 3, 4, 5, 6, 7] [(true, true), (true, true), (true, true), (true, false), (true, true), (true, false), (true, true), (false, false)] [0, 1, 3, 7, 0, 16, 63, 127] _ (by kernel_rfl) (by kernel_rfl) (rfl : _ = _) ?_; simp only [pickL, List.map_cons, List.map_nil, List.getD_cons_succ, List.getD_cons_zero])
        (repeat (first | (refine mix_pure (fun hne K hK => ?_); go_simp; refine hK _ ?_; clear hK K hne) | (refine mix_load ?_ (fun K hK => ?_); (focus (first | rfl | (go_simp; done))); go_simp; refine hK _ ?_; clear hK K) | (refine mix_skip ?_ (fun K hK => ?_); (focus (first | rfl | (go_simp; done))); go_simp; refine hK _ ?_; clear hK K)))
        (refine mix_one (by first | rfl | (go_simp; done)) (fun R hR hX => ?_))
        go_wp2_with fail
        ((try simp only [wpList]); refine hR _ _ rfl ⟨fun w' => w' = _, rfl, (fun h => by cases h), ?_⟩; clear hR hX R)
        refine mix_done ?_
        go_wp2_with fail
        go_meet
        obtain ⟨a1, a2, a3, a4, a5⟩ := HX.out
        exact ⟨a1.drew, a2, a3, a4.drew, a5⟩
      | false =>
        have hD := of_decide_eq_false HDD.out.symm
        have hMM : M2 = { M with ops := M.ops + 1 } := by rw [HD.out, if_neg hD]
        rw [← hMM] at hN4
        clear hD hMM HDD
        go_wp2_with fail
        go_meet
        exact ⟨hN4, hR4, hQ4, hO4, hv4⟩
    case rest =>
      obtain ⟨hN5, hR5, hQ5, hO5, hv5⟩ := hcut
      obtain ⟨-, hxk, -⟩ := hxi
      have e1 : M2.mem = M.mem := by rw [HD.out]; split <;> rfl
      have hT := hN5.top
      simp only [topCells, Bool.false_eq_true, if_false, e1] at hT
      have t5 := cells_at hT 5 _ rfl
      have t8 := froz_at hT 8
      have t8c := cells_at hT 8 _ rfl
      have hgone := hN5.dead.cell (o := c) (show c < M2.mem + 1 by omega)
      simp only [List.getElem_toArray, List.getElem_cons_succ, List.getElem_cons_zero] at t5 t8c
      have q0 := cells_at hQ5 0 _ rfl
      have q1 := cells_at hQ5 1 _ rfl
      have q2 := cells_at hQ5 2 _ rfl
      have q3 := cells_at hQ5 3 _ rfl
      simp only [List.getElem_toArray, List.getElem_cons_succ, List.getElem_cons_zero] at q0 q1 q2 q3
      have r0 := cells_at hR5 0 _ rfl
      have r1 := cells_at hR5 1 _ rfl
      have r2 := cells_at hR5 2 _ rfl
      have r3 := cells_at hR5 3 _ rfl
      have rf0 := froz_at hR5 0
      have rf1 := froz_at hR5 1
      have rf2 := froz_at hR5 2
      have rf3 := froz_at hR5 3
      have hcl : (c : Int) < (M.mem : Int) + 1 := by omega
      have hlr := heap_lt hR5
      have hlq := heap_lt hQ5
      have HR := Lib.hid hR5
      clear hT hQ5 HDD HD e1 hR5
      by_cases hg : M2.gone c = true
      · rw [hg] at hgone
        by_cases hk2 : xk = 2
        · have hk2' : (xk == 2) = true := by simp [hk2]
          have hb := HB.out
          rw [if_pos hg, if_pos hk2] at hb
          have HB2 := Lib.hid hb
          clear hb hk2 hg HB
          have hN6 := hN5.setOff true
          have hO6 := hO5.set ⟨L.p, 8, none⟩ (.bool true) (fun _ => hN5.Sp)
          have hR6 := set_other (a := ⟨L.p, 8, none⟩) (.bool true) HR.out (hN5.ne_tag hLr hN5.tp (by simp))
          have HX := Lib.hid (⟨hN6, hO6, hR6⟩ : _ ∧ _ ∧ _)
          clear hN6 hO6 hR6 hN5 hO5
          go_wp2_with fail
          obtain ⟨hN6, hO6, hR6⟩ := HX.out
          refine bodyPost_ret (res_ct rfl rfl (set4 hR6) Try.underlying103 rfl (by kernel_rfl)) rfl ?_
          exact rbegin_end (x := .zero) (n := 72) (v := .slice none 0 0) hN6 hLr hR6 hO6 HWR.out (RB.nil _) HB2.out HPOST.out
        · have hb := HB.out
          have hk2' : (xk == 2) = false := by simp [hk2]
          rw [if_pos hg, if_neg hk2] at hb
          have HB2 := Lib.hid hb
          clear hb hk2 hg HB
          go_wp2_with fail
          refine bodyPost_ret (res_ct rfl rfl (set4 HR.out) Try.underlying103 rfl (by kernel_rfl)) rfl ?_
          exact rbegin_end (x := .zero) (n := 71) (v := .slice none 0 0) hN5 hLr HR.out hO5 HWR.out (RB.nil _) HB2.out HPOST.out
      · have hg' : M2.gone c = false := by simpa using hg
        rw [hg'] at hgone
        have hb := HB.out
        rw [if_neg hg] at hb
        have HB2 := Lib.hid hb
        clear hb hg HB
        go_wp2_with fail
        refine bodyPost_ret (res_ct rfl rfl (set4 HR.out) Try.underlying103 rfl (by kernel_rfl)) rfl ?_
        exact rbegin_end (x := ⟨xo, xk, xc, xl⟩) (n := 0) (v := .slice va xl.length vc) (c := c) (b := b) hN5 hLr HR.out hO5 HWR.out hv5 HB2.out HPOST.out
theorem rbegin_calls {w : World} {L : NdLay} {M : Nd} (h : NdAt false w L M) (c b : Int) (hc : I64 c) (hb : I64 b) (hops : M.ops < 1000000) :
    Calls Try.prog 57 #[ptrV L.p, .int .i64 c, .int .i64 b] w (RBeginEnds w L M c b) := by
  by_cases hoff : M.off = true
  · exact rbegin_out h c b hc hb (.inl hoff)
  · by_cases hin : M.inside c b
    · obtain ⟨h1, h2, h3, h4⟩ := hin
      obtain ⟨c, rfl⟩ : ∃ n : Nat, c = n := ⟨c.toNat, by omega⟩
      obtain ⟨b, rfl⟩ : ∃ n : Nat, b = n := ⟨b.toNat, by omega⟩
      exact rbegin_in h c b (by omega) (by omega) (by simpa using hoff) hops
    · exact rbegin_out h c b hc hb (.inr hin)
end Go.Proofs.Ytphnjiokihbhnaa
