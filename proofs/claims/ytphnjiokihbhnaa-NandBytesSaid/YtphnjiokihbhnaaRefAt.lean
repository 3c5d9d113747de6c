/- gabionref04: the event of an operation. -/
--only r2
import Derived.Test.YtphnjiokihbhnaaNandLeft
namespace Go.Proofs.Ytphnjiokihbhnaa
set_option linter.unusedVariables false
set_option linter.unusedSimpArgs false
open Go.RowKit

theorem res_box {w1 : World} {b t : Nat} {x0 x1 x2 x3 : Value} {fz : Nat × Nat} (h : w1.heap[b]? = some (.cells #[x0, x1, x2, x3] t fz)) : NB x0 → NB x1 → NB x2 → NB x3 → NoByte w1 b := fun h0 h1 h2 h3 =>
  noByte_of h fun o c hc => by
    match o with
    | 0 => simp at hc; exact h0 c hc
    | 1 => simp at hc; exact h1 c hc
    | 2 => simp at hc; exact h2 c hc
    | 3 => simp at hc; exact h3 c hc
    | o + 4 => simp at hc

set_option maxRecDepth 100000 in
set_option maxHeartbeats 2000000 in
theorem rcomes_calls {w : World} {L : NdLay} {M : Nd} (h : NdAt false w L M) :
    Calls Try.prog 68 #[ptrV L.p] w fun e w' => ∃ v, e = .returned (evV (comesOf M.evs M.ops) v) ∧ RB w' v (comesOf M.evs M.ops).left ∧ Below w.heap.size w w' := by
  have hT := h.top
  simp only [topCells, Bool.false_eq_true, if_false] at hT
  have hev := h.evs
  have hops := h.ok.ops
  have hlen := h.ok.evs
  clear h
  generalize L.p = p at hT ⊢
  generalize hS : (fun b => L.tag b = Tag.evs) = S at hev
  clear hS
  obtain ⟨mem, blk, pgs, siz, page, next, erases, bad, gone, evs, ops, off⟩ := M
  simp only at hT hev hops hlen ⊢
  generalize hSS : Value.slice (some ⟨L.cs, 0, none⟩) (mem + 1) L.cc = x4 at hT
  generalize hSS2 : Value.slice (some ⟨L.dd, 0, none⟩) (mem + 1) L.dc = x5 at hT
  clear hSS hSS2
  generalize L.ea = ea at hT hev
  generalize L.ec = ec at hT hev
  have hlt := heap_lt hT
  go_enter Try.func68, Try.ntmps68
  go_wp2_with fail
  have hR : (w.alloc (.cells #[.int .i64 0, .int .i64 0, .int .i64 0, .slice none 0 0] 103)).heap[w.heap.size]? = some (.cells #[.int .i64 0, .int .i64 0, .int .i64 0, .slice none 0 0] 103 (0, 0)) := heap_is rfl
  have hbel := (Below.refl w.heap.size w).alloc (Nat.le_refl _) (.cells #[.int .i64 0, .int .i64 0, .int .i64 0, .slice none 0 0] 103)
  generalize w.alloc (.cells #[.int .i64 0, .int .i64 0, .int .i64 0, .slice none 0 0] 103) = w1 at hR hbel ⊢
  obtain ⟨r, hr⟩ : ∃ r, r = w.heap.size := ⟨_, rfl⟩
  rw [← hr] at hR ⊢
  have hrp : p < r := by omega
  have hrw : w.heap.size ≤ r := by omega
  clear hr
  go_loopw [3] (fun i wr => ∃ k : Nat, k ≤ evs.length ∧ i = .int .i64 k ∧ (∀ x ∈ evs.take k, Ev.now ops x = false) ∧ wr.heap[r]? = some (.cells #[.int .i64 0, .int .i64 0, .int .i64 0, .slice none 0 0] 103 (0, 0)) ∧ Below w.heap.size w wr) (fun i _ => evs.length - (intOf i).toNat)
  case atStart => exact ⟨0, Nat.zero_le _, rfl, (fun x hx => by simp at hx), hR, hbel⟩
  case round =>
    clear hR hbel
    obtain ⟨k, hk, rfl, hno, hR, hbel⟩ := hrel
    have hPw := heap_keep hbel hT
    have hEw := hev.only (Only.new hbel fun _ => False) (fun _ _ => False.elim) (fun _ _ => False.elim)
    have hlr := heap_lt hR
    have hP6 := cells_at hPw 6 _ rfl
    have hP7 := cells_at hPw 7 _ rfl
    simp only [List.getElem_toArray, List.getElem_cons_succ, List.getElem_cons_zero] at hP6 hP7
    have hlp := heap_lt hPw
    by_cases hlt : k < evs.length
    · obtain ⟨eb, o, v, rfl, c0, c1, c2, c3, hv⟩ := hEw.at hlt
      obtain ⟨hyes, hnext⟩ := find_take hno hlt
      obtain ⟨va, vc, hvs, -, -⟩ := hv.form
      generalize hxk : evs[k] = x at c0 c1 c2 c3 hv hyes hnext hvs
      obtain ⟨xo, xk, xc, xl⟩ := x
      simp only at c0 c1 c2 c3 hv hvs
      have hbx := cell_lt c0
      rw [hvs] at c3
      have HYES := Lib.hid hyes
      have HNEXT := Lib.hid hnext
      have HVS := Lib.hid hvs
      have hki : (k : Int) < evs.length := by omega
      clear hno hxk hyes hnext hEw hev hvs hT hPw
      have hnow : Ev.now ops ⟨xo, xk, xc, xl⟩ = (xo == (ops : Int) && (decide (1 ≤ xk) && decide (xk ≤ 3))) := rfl
      have HNOW := Lib.hid hnow
      clear hnow
      by_cases hall : (xo == (ops : Int)) = true ∧ 1 ≤ xk ∧ xk ≤ 3
      · obtain ⟨hop, h1, h3⟩ := hall
        have hf := HYES.out (by rw [HNOW.out, hop, decide_eq_true h1, decide_eq_true h3]; rfl)
        have HF := Lib.hid hf
        have hR0 := cells_at hR 0 _ rfl
        have hR1 := cells_at hR 1 _ rfl
        have hR2 := cells_at hR 2 _ rfl
        have hR3 := cells_at hR 3 _ rfl
        have hRf0 := froz_at hR 0
        have hRf1 := froz_at hR 1
        have hRf2 := froz_at hR 2
        have hRf3 := froz_at hR 3
        clear hf
        go_wp2_with fail
        (refine wp_region_mix [0, 1, 2, 3, 4, 5, 6, 7, 8, 9, 10, 11, 12, 13, 14, 15, 16, 17, 18, 19, 20, 21, 22, 23, 24, 25, 26, 27, 28, 29, 30, 31, 32, 33, 34] [(true, true), (true, true), (true, true), (true, false), (true, true), (true, true), (true, true), (true, false), (true, true), (true, true), (true, true), (true, false), (true, true), (true, true), (true, true), (true, true), (true, true), (true, false), (true, true), (true, true), (true, true), (true, false), (true, true), (true, true), (true, true), (true, true), (true, true), (true, true), (true, false), (true, true), (true, true), (true, true), (true, false), (true, true), (true, true)] [0, 1, 3, 7, 0, 31, 63, 127, 0, 256, 768, 1792, 4095, 8191, 16383, 32767, 65535, 131071, 16383, 524287, 1048575, 2097151, 4194303, 8388607, 16777215, 33554431, 67108863, 134217727, 268435455, 33554431, 1073741823, 2147483647, 4294967295, 8589934591, 17179869183] _ (by kernel_rfl) (by kernel_rfl) (rfl : _ = _) ?_; simp only [pickL, List.map_cons, List.map_nil, List.getD_cons_succ, List.getD_cons_zero])
        (repeat (first | (refine mix_pure (fun hne K hK => ?_); go_simp; refine hK _ ?_; clear hK K hne) | (refine mix_load ?_ (fun K hK => ?_); (focus (first | rfl | (go_simp; done))); go_simp; refine hK _ ?_; clear hK K) | (refine mix_skip ?_ (fun K hK => ?_); (focus (first | rfl | (go_simp; done))); go_simp; refine hK _ ?_; clear hK K)))
        refine mix_done ?_
        go_wp2_with fail
        refine bodyPost_ret (res_c rfl rfl (heap_drew (set4 hR)) Try.underlying103 rfl (by kernel_rfl)) rfl ⟨.slice va xl.length vc, ?_, ?_, ?_⟩
        · unfold comesOf; rw [HF.out]; rfl
        · unfold comesOf; rw [HF.out]; rw [← HVS.out]
          exact hv.only ((only4 wr r _ _ _ _).drew) (fun b _ e => by subst e; exact res_box hR (nb_i64 _) (nb_i64 _) (nb_i64 _) (nb_slice _ _ _))
        · exact (put4 hbel r _ _ _ _ hrw).drew
      · have hfalse : Ev.now ops ⟨xo, xk, xc, xl⟩ = false := by
          rw [HNOW.out]
          by_cases a1 : (xo == (ops : Int)) = true
          · by_cases a2 : 1 ≤ xk
            · have a3 : ¬ xk ≤ 3 := fun h => hall ⟨a1, a2, h⟩
              simp [a3]
            · simp [a2]
          · simp [a1]
        have hno' := HNEXT.out hfalse
        have HE := Lib.hid hbel.drew
        have HR := Lib.hid hR
        have HN := Lib.hid hno'
        clear hno' hfalse hR
        by_cases a1 : (xo == (ops : Int)) = true
        · by_cases a2 : 1 ≤ xk
          · have a3 : ¬ xk ≤ 3 := fun h => hall ⟨a1, a2, h⟩
            clear hall
            go_wp2_with fail
            (refine wp_region_mix [0, 1, 2, 3, 4, 5, 6, 7, 8, 9, 10, 11, 12, 13, 14, 15, 16, 17, 18, 19, 20, 21, 22, 23, 24, 25, 26, 27, 28, 29, 30, 31, 32, 33, 34] [(true, true), (true, true), (true, true), (true, false), (true, true), (true, true), (true, true), (true, false), (true, true), (true, true), (true, true), (true, false), (true, true), (true, true), (true, true), (true, true), (true, true), (true, false), (true, true), (true, true), (true, true), (true, false), (true, true), (true, true), (true, true), (true, true), (true, true), (true, true), (true, false), (true, true), (true, true), (true, true), (true, false), (true, true), (true, true)] [0, 1, 3, 7, 0, 31, 63, 127, 0, 256, 768, 1792, 4095, 8191, 16383, 32767, 65535, 131071, 16383, 524287, 1048575, 2097151, 4194303, 8388607, 16777215, 33554431, 67108863, 134217727, 268435455, 33554431, 1073741823, 2147483647, 4294967295, 8589934591, 17179869183] _ (by kernel_rfl) (by kernel_rfl) (rfl : _ = _) ?_; simp only [pickL, List.map_cons, List.map_nil, List.getD_cons_succ, List.getD_cons_zero])
            (repeat (first | (refine mix_pure (fun hne K hK => ?_); go_simp; refine hK _ ?_; clear hK K hne) | (refine mix_load ?_ (fun K hK => ?_); (focus (first | rfl | (go_simp; done))); go_simp; refine hK _ ?_; clear hK K) | (refine mix_skip ?_ (fun K hK => ?_); (focus (first | rfl | (go_simp; done))); go_simp; refine hK _ ?_; clear hK K)))
            refine mix_done ?_
            go_wp2_with fail
            go_roundw
            case rel => exact ⟨k + 1, by omega, by go_num, HN.out, HR.out, HE.out⟩
            case measure => simp [intOf]; omega
          · clear hall
            go_wp2_with fail
            (refine wp_region_mix [0, 1, 2, 3, 4, 5, 6, 7, 8, 9, 10, 11, 12, 13, 14, 15, 16, 17, 18, 19, 20, 21, 22, 23, 24, 25, 26, 27, 28, 29, 30, 31, 32, 33, 34] [(true, true), (true, true), (true, true), (true, false), (true, true), (true, true), (true, true), (true, false), (true, true), (true, true), (true, true), (true, false), (true, true), (true, true), (true, true), (true, true), (true, true), (true, false), (true, true), (true, true), (true, true), (true, false), (true, true), (true, true), (true, true), (true, true), (true, true), (true, true), (true, false), (true, true), (true, true), (true, true), (true, false), (true, true), (true, true)] [0, 1, 3, 7, 0, 31, 63, 127, 0, 256, 768, 1792, 4095, 8191, 16383, 32767, 65535, 131071, 16383, 524287, 1048575, 2097151, 4194303, 8388607, 16777215, 33554431, 67108863, 134217727, 268435455, 33554431, 1073741823, 2147483647, 4294967295, 8589934591, 17179869183] _ (by kernel_rfl) (by kernel_rfl) (rfl : _ = _) ?_; simp only [pickL, List.map_cons, List.map_nil, List.getD_cons_succ, List.getD_cons_zero])
            (repeat (first | (refine mix_pure (fun hne K hK => ?_); go_simp; refine hK _ ?_; clear hK K hne) | (refine mix_load ?_ (fun K hK => ?_); (focus (first | rfl | (go_simp; done))); go_simp; refine hK _ ?_; clear hK K) | (refine mix_skip ?_ (fun K hK => ?_); (focus (first | rfl | (go_simp; done))); go_simp; refine hK _ ?_; clear hK K)))
            refine mix_done ?_
            go_wp2_with fail
            go_roundw
            case rel => exact ⟨k + 1, by omega, by go_num, HN.out, HR.out, HE.out⟩
            case measure => simp [intOf]; omega
        · have a1' : (xo == (ops : Int)) = false := by simpa using a1
          clear hall a1
          go_wp2_with fail
          (refine wp_region_mix [0, 1, 2, 3, 4, 5, 6, 7, 8, 9, 10, 11, 12, 13, 14, 15, 16, 17, 18, 19, 20, 21, 22, 23, 24, 25, 26, 27, 28, 29, 30, 31, 32, 33, 34] [(true, true), (true, true), (true, true), (true, false), (true, true), (true, true), (true, true), (true, false), (true, true), (true, true), (true, true), (true, false), (true, true), (true, true), (true, true), (true, true), (true, true), (true, false), (true, true), (true, true), (true, true), (true, false), (true, true), (true, true), (true, true), (true, true), (true, true), (true, true), (true, false), (true, true), (true, true), (true, true), (true, false), (true, true), (true, true)] [0, 1, 3, 7, 0, 31, 63, 127, 0, 256, 768, 1792, 4095, 8191, 16383, 32767, 65535, 131071, 16383, 524287, 1048575, 2097151, 4194303, 8388607, 16777215, 33554431, 67108863, 134217727, 268435455, 33554431, 1073741823, 2147483647, 4294967295, 8589934591, 17179869183] _ (by kernel_rfl) (by kernel_rfl) (rfl : _ = _) ?_; simp only [pickL, List.map_cons, List.map_nil, List.getD_cons_succ, List.getD_cons_zero])
          (repeat (first | (refine mix_pure (fun hne K hK => ?_); go_simp; refine hK _ ?_; clear hK K hne) | (refine mix_load ?_ (fun K hK => ?_); (focus (first | rfl | (go_simp; done))); go_simp; refine hK _ ?_; clear hK K) | (refine mix_skip ?_ (fun K hK => ?_); (focus (first | rfl | (go_simp; done))); go_simp; refine hK _ ?_; clear hK K)))
          refine mix_done ?_
          go_wp2_with fail
          go_roundw
          case rel => exact ⟨k + 1, by omega, by go_num, HN.out, HR.out, HE.out⟩
          case measure => simp [intOf]; omega
    · obtain rfl : k = evs.length := by omega
      have hf := find_none hno
      have hR0 := cells_at hR 0 _ rfl
      have hR1 := cells_at hR 1 _ rfl
      have hR2 := cells_at hR 2 _ rfl
      have hR3 := cells_at hR 3 _ rfl
      have hRf0 := froz_at hR 0
      have hRf1 := froz_at hR 1
      have hRf2 := froz_at hR 2
      have hRf3 := froz_at hR 3
      have HF := Lib.hid hf
      have HR := Lib.hid hR
      clear hno hf hR hT hPw hEw hev
      go_wp2_with fail
      refine bodyPost_ret (res_c rfl rfl (set4 HR.out) Try.underlying103 rfl (by kernel_rfl)) rfl ⟨nilV, ?_, ?_, ?_⟩
      · unfold comesOf; rw [HF.out]; rfl
      · unfold comesOf; rw [HF.out]; exact RB.nil _
      · exact put4 hbel r _ _ _ _ hrw
end Go.Proofs.Ytphnjiokihbhnaa
