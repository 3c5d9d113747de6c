/- nand: the event of an operation. -/
--only r2
import Derived.Test.YtphnjiokihbhnaaNandSet
import Derived.Test.YtphnjiokihbhnaaMix
namespace Go.Proofs.Ytphnjiokihbhnaa
set_option linter.unusedVariables false
set_option linter.unusedSimpArgs false
open Go.RowKit

def evV (x : Ev) (v : Value) : Value := .agg #[.int .i64 x.op, .int .i64 x.kind, .int .i64 x.chip, v]
theorem REv.at {w : World} {a : Option Addr} {cap : Nat} {xs : List Ev} {S : Nat → Prop} (h : REv w a cap xs S) {k : Nat} (hk : k < xs.length) :
    ∃ b o v, a = some ⟨b, o, none⟩ ∧ w.cell? ⟨b, o + k * 4, none⟩ = some (.int .i64 xs[k].op) ∧ w.cell? ⟨b, o + k * 4 + 1, none⟩ = some (.int .i64 xs[k].kind) ∧ w.cell? ⟨b, o + k * 4 + 2, none⟩ = some (.int .i64 xs[k].chip) ∧ w.cell? ⟨b, o + k * 4 + 3, none⟩ = some v ∧ RB w v xs[k].left := by
  obtain ⟨_, _, _, h4⟩ := h
  obtain ⟨b, o, ha, _, hc⟩ := h4.resolve_left (fun e => by subst e; simp at hk)
  obtain ⟨v, c0, c1, c2, c3, hv⟩ := hc k hk
  exact ⟨b, o, v, ha, c0, c1, c2, c3, hv⟩
theorem find_take {evs : List Ev} {n k : Nat} (h : ∀ x ∈ evs.take k, Ev.now n x = false) (hk : k < evs.length) :
    (Ev.now n evs[k] = true → evs.find? (Ev.now n) = some evs[k]) ∧ (Ev.now n evs[k] = false → ∀ x ∈ evs.take (k + 1), Ev.now n x = false) := by
  refine ⟨fun hx => ?_, fun hx x hm => ?_⟩
  · have e : evs = evs.take k ++ evs[k] :: evs.drop (k + 1) := by simp
    rw [List.find?_eq_some_iff_append]
    exact ⟨hx, evs.take k, evs.drop (k + 1), e, fun a ha => by simp [h a ha]⟩
  · rw [List.take_succ_eq_append_getElem hk, List.mem_append, List.mem_singleton] at hm
    rcases hm with hm | rfl
    · exact h x hm
    · exact hx
theorem find_none {evs : List Ev} {n : Nat} (h : ∀ x ∈ evs.take evs.length, Ev.now n x = false) : evs.find? (Ev.now n) = none := by
  rw [List.take_length] at h
  rw [List.find?_eq_none]
  intro x hx; simp [h x hx]

theorem set4 {w1 : World} {b t : Nat} {x0 x1 x2 x3 u0 u1 u2 u3 : Value} (h : w1.heap[b]? = some (.cells #[x0, x1, x2, x3] t (0, 0))) :
    ((((w1.setCell ⟨b, 0, none⟩ u0).setCell ⟨b, 1, none⟩ u1).setCell ⟨b, 2, none⟩ u2).setCell ⟨b, 3, none⟩ u3).heap[b]? = some (.cells #[u0, u1, u2, u3] t (0, 0)) := by
  have h1 := set_at (o := 0) h u0
  have h2 := set_at (o := 1) h1 u1
  have h3 := set_at (o := 2) h2 u2
  have h4 := set_at (o := 3) h3 u3
  rw [h4]; rfl
theorem put4 {B : Nat} {w w1 : World} (hb : Below B w w1) (b : Nat) (u0 u1 u2 u3 : Value) (hB : B ≤ b) :
    Below B w ((((w1.setCell ⟨b, 0, none⟩ u0).setCell ⟨b, 1, none⟩ u1).setCell ⟨b, 2, none⟩ u2).setCell ⟨b, 3, none⟩ u3) :=
  (((hb.setCell (by exact hB) u0).setCell (by exact hB) u1).setCell (by exact hB) u2).setCell (by exact hB) u3
theorem only4 (w1 : World) (b : Nat) (u0 u1 u2 u3 : Value) :
    Only (fun x => x = b) w1 ((((w1.setCell ⟨b, 0, none⟩ u0).setCell ⟨b, 1, none⟩ u1).setCell ⟨b, 2, none⟩ u2).setCell ⟨b, 3, none⟩ u3) :=
  (((Only.of_set w1 ⟨b, 0, none⟩ u0).set ⟨b, 1, none⟩ u1 fun _ => rfl).set ⟨b, 2, none⟩ u2 fun _ => rfl).set ⟨b, 3, none⟩ u3 fun _ => rfl

set_option maxRecDepth 100000 in
set_option maxHeartbeats 1000000 in
theorem nat_calls {w : World} {L : NdLay} {M : Nd} (h : NdAt true w L M) :
    Calls Try.prog 56 #[ptrV L.p] w fun e w' => ∃ v, e = .returned (.tuple #[evV (comesOf M.evs M.ops) v, .bool (M.evs.find? (Ev.now M.ops)).isSome]) ∧ RB w' v (comesOf M.evs M.ops).left ∧ Below w.heap.size w w' := by
  have hT := h.top
  simp only [topCells, if_true] at hT
  have hev := h.evs
  have hops := h.ok.ops
  have hlen := h.ok.evs
  clear h
  generalize L.p = p at hT ⊢
  generalize hS : (fun b => L.tag b = Tag.evs) = S at hev
  clear hS
  obtain ⟨mem, blk, pgs, siz, page, next, erases, bad, gone, evs, ops, off⟩ := M
  simp only at hT hev hops hlen ⊢
  generalize hSS : Value.slice (some ⟨L.cs, 0, none⟩) (mem + 1) L.cc = x4 at hT
  generalize hSS2 : Value.slice (some ⟨L.dd, 0, none⟩) (mem + 1) L.dc = x5 at hT
  clear hSS hSS2
  generalize L.ea = ea at hT hev
  generalize L.ec = ec at hT hev
  (have hT_0 := cells_at hT 0 _ rfl; have hT_1 := cells_at hT 1 _ rfl; have hT_2 := cells_at hT 2 _ rfl; have hT_3 := cells_at hT 3 _ rfl; have hT_4 := cells_at hT 4 _ rfl; have hT_5 := cells_at hT 5 _ rfl; have hT_6 := cells_at hT 6 _ rfl; have hT_7 := cells_at hT 7 _ rfl; have hT_8 := cells_at hT 8 _ rfl)
  have hlt := heap_lt hT
  go_enter Try.func56, Try.ntmps56
  go_wp2_with fail
  have hR : (w.alloc (.cells #[.int .i64 0, .int .i64 0, .int .i64 0, .slice none 0 0] 92)).heap[w.heap.size]? = some (.cells #[.int .i64 0, .int .i64 0, .int .i64 0, .slice none 0 0] 92 (0, 0)) := heap_is rfl
  have hbel := (Below.refl w.heap.size w).alloc (Nat.le_refl _) (.cells #[.int .i64 0, .int .i64 0, .int .i64 0, .slice none 0 0] 92)
  generalize w.alloc (.cells #[.int .i64 0, .int .i64 0, .int .i64 0, .slice none 0 0] 92) = w1 at hR hbel ⊢
  obtain ⟨r, hr⟩ : ∃ r, r = w.heap.size := ⟨_, rfl⟩
  rw [← hr] at hR ⊢
  have hrp : p < r := by omega
  have hrw : w.heap.size ≤ r := by omega
  clear hr
  ((try clear hT_0 hT_1 hT_2 hT_3 hT_4 hT_5 hT_6 hT_7 hT_8))
  go_loopw [11] (fun i wr => ∃ k : Nat, k ≤ evs.length ∧ i = .int .i64 k ∧ (∀ x ∈ evs.take k, Ev.now ops x = false) ∧ wr.heap[r]? = some (.cells #[.int .i64 0, .int .i64 0, .int .i64 0, .slice none 0 0] 92 (0, 0)) ∧ Below w.heap.size w wr) (fun i _ => evs.length - (intOf i).toNat)
  case atStart => exact ⟨0, Nat.zero_le _, rfl, (fun x hx => by simp at hx), hR, hbel⟩
  case round =>
    clear hR hbel
    obtain ⟨k, hk, rfl, hno, hR, hbel⟩ := hrel
    have hPw := heap_keep hbel hT
    have hEw := hev.only (Only.new hbel fun _ => False) (fun _ _ => False.elim) (fun _ _ => False.elim)
    have hlr := heap_lt hR
    by_cases hlt : k < evs.length
    · obtain ⟨eb, o, v, rfl, c0, c1, c2, c3, hv⟩ := hEw.at hlt
      have hmem : evs[k] ∈ evs := List.getElem_mem _
      obtain ⟨hyes, hnext⟩ := find_take hno hlt
      obtain ⟨va, vc, hvs, -, -⟩ := hv.form
      generalize hxk : evs[k] = x at c0 c1 c2 c3 hv hyes hnext hvs
      obtain ⟨xo, xk, xc, xl⟩ := x
      simp only at c0 c1 c2 c3 hv hvs
      have hbx := cell_lt c0
      have hP7 := cells_at hPw 7 _ rfl
      have hlp := heap_lt hPw
      rw [hvs] at c3
      have HYES := Lib.hid hyes
      have HNEXT := Lib.hid hnext
      have HVS := Lib.hid hvs
      clear hno hxk hyes hnext hEw hev hmem hvs hT
      have hnow : Ev.now ops ⟨xo, xk, xc, xl⟩ = (xo == (ops : Int) && (decide (1 ≤ xk) && decide (xk ≤ 3))) := rfl
      have HNOW := Lib.hid hnow
      clear hnow
      by_cases hall : (xo == (ops : Int)) = true ∧ 1 ≤ xk ∧ xk ≤ 3
      · obtain ⟨hop, h1, h3⟩ := hall
        have hf := HYES.out (by rw [HNOW.out, hop, decide_eq_true h1, decide_eq_true h3]; rfl)
        have HF := Lib.hid hf
        have hR0 := cells_at hR 0 _ rfl
        have hR1 := cells_at hR 1 _ rfl
        have hR2 := cells_at hR 2 _ rfl
        have hR3 := cells_at hR 3 _ rfl
        have hRf0 := froz_at hR 0
        have hRf1 := froz_at hR 1
        have hRf2 := froz_at hR 2
        have hRf3 := froz_at hR 3
        clear hf
        go_wp2_with fail
        (refine wp_region_mix [0, 1, 2, 3, 4, 5, 6, 7, 8, 9, 10, 11, 12, 13, 14, 15, 16] [(true, true), (true, false), (true, true), (true, true), (true, true), (true, false), (true, true), (true, true), (true, true), (true, false), (true, true), (true, true), (true, true), (true, true), (true, false), (true, true), (true, true)] [0, 1, 0, 4, 12, 28, 63, 127, 255, 511, 1023, 2047, 4095, 8191, 16383, 32767, 65535] _ (by kernel_rfl) (by kernel_rfl) (rfl : _ = _) ?_; simp only [pickL, List.map_cons, List.map_nil, List.getD_cons_succ, List.getD_cons_zero])
        (repeat (first | (refine mix_pure (fun hne K hK => ?_); go_simp; refine hK _ ?_; clear hK K hne) | (refine mix_load ?_ (fun K hK => ?_); (focus (first | rfl | (go_simp; done))); go_simp; refine hK _ ?_; clear hK K) | (refine mix_skip ?_ (fun K hK => ?_); (focus (first | rfl | (go_simp; done))); go_simp; refine hK _ ?_; clear hK K)))
        refine mix_done ?_
        go_wp2_with fail
        refine bodyPost_ret (res_ct rfl rfl (heap_old _ (set4 hR)) Try.underlying92 rfl (by kernel_rfl)) rfl ⟨.slice va xl.length vc, ?_, ?_, ?_⟩
        · unfold comesOf; rw [HF.out]; rfl
        · unfold comesOf; rw [HF.out]; rw [← HVS.out]
          exact hv.only ((only4 wr r _ _ _ _).alloc _).drew (fun b _ e => by subst e; exact noByte_of hR (fun o c h => by have : u8v c ∈ (#[.int .i64 0, .int .i64 0, .int .i64 0, .slice none 0 0] : Array Value) := Array.mem_of_getElem? h; simp [u8v] at this))
        · exact ((put4 hbel r _ _ _ _ hrw).alloc (by simp only [size_set]; exact hbel.size) _).drew
      · have hfalse : Ev.now ops ⟨xo, xk, xc, xl⟩ = false := by
          rw [HNOW.out]
          by_cases a1 : (xo == (ops : Int)) = true
          · by_cases a2 : 1 ≤ xk
            · have a3 : ¬ xk ≤ 3 := fun h => hall ⟨a1, a2, h⟩
              simp [a3]
            · simp [a2]
          · simp [a1]
        have hno' := HNEXT.out hfalse
        have hend : ∀ n, Below w.heap.size w ((wr.alloc (.cells #[.int .i64 xo, .int .i64 xk, .int .i64 xc, .slice va xl.length vc] 92)).drewN n) := fun n => (hbel.alloc hbel.size _).trans (below_draws _ _ |>.mono (by simp; have := hbel.size; omega))
        have hend1 : Below w.heap.size w ((wr.alloc (.cells #[.int .i64 xo, .int .i64 xk, .int .i64 xc, .slice va xl.length vc] 92)).drew) := hend 1
        have HE := Lib.hid hend1
        have HR := Lib.hid hR
        have HN := Lib.hid hno'
        clear hno' hfalse hend hend1 hR
        by_cases a1 : (xo == (ops : Int)) = true
        · by_cases a2 : 1 ≤ xk
          · have a3 : ¬ xk ≤ 3 := fun h => hall ⟨a1, a2, h⟩
            clear hall
            go_wp2_with fail
            (refine wp_region_mix [0, 1, 2, 3, 4, 5, 6, 7, 8, 9, 10, 11, 12, 13, 14, 15, 16] [(true, true), (true, false), (true, true), (true, true), (true, true), (true, false), (true, true), (true, true), (true, true), (true, false), (true, true), (true, true), (true, true), (true, true), (true, false), (true, true), (true, true)] [0, 1, 0, 4, 12, 28, 63, 127, 255, 511, 1023, 2047, 4095, 8191, 16383, 32767, 65535] _ (by kernel_rfl) (by kernel_rfl) (rfl : _ = _) ?_; simp only [pickL, List.map_cons, List.map_nil, List.getD_cons_succ, List.getD_cons_zero])
            (repeat (first | (refine mix_pure (fun hne K hK => ?_); go_simp; refine hK _ ?_; clear hK K hne) | (refine mix_load ?_ (fun K hK => ?_); (focus (first | rfl | (go_simp; done))); go_simp; refine hK _ ?_; clear hK K) | (refine mix_skip ?_ (fun K hK => ?_); (focus (first | rfl | (go_simp; done))); go_simp; refine hK _ ?_; clear hK K)))
            refine mix_done ?_
            go_wp2_with fail
            go_roundw
            case rel => exact ⟨k + 1, by omega, by go_num, HN.out, heap_old _ HR.out, HE.out⟩
            case measure => simp [intOf]; omega
          · clear hall
            go_wp2_with fail
            (refine wp_region_mix [0, 1, 2, 3, 4, 5, 6, 7, 8, 9, 10, 11, 12, 13, 14, 15, 16] [(true, true), (true, false), (true, true), (true, true), (true, true), (true, false), (true, true), (true, true), (true, true), (true, false), (true, true), (true, true), (true, true), (true, true), (true, false), (true, true), (true, true)] [0, 1, 0, 4, 12, 28, 63, 127, 255, 511, 1023, 2047, 4095, 8191, 16383, 32767, 65535] _ (by kernel_rfl) (by kernel_rfl) (rfl : _ = _) ?_; simp only [pickL, List.map_cons, List.map_nil, List.getD_cons_succ, List.getD_cons_zero])
            (repeat (first | (refine mix_pure (fun hne K hK => ?_); go_simp; refine hK _ ?_; clear hK K hne) | (refine mix_load ?_ (fun K hK => ?_); (focus (first | rfl | (go_simp; done))); go_simp; refine hK _ ?_; clear hK K) | (refine mix_skip ?_ (fun K hK => ?_); (focus (first | rfl | (go_simp; done))); go_simp; refine hK _ ?_; clear hK K)))
            refine mix_done ?_
            go_wp2_with fail
            go_roundw
            case rel => exact ⟨k + 1, by omega, by go_num, HN.out, heap_old _ HR.out, HE.out⟩
            case measure => simp [intOf]; omega
        · have a1' : (xo == (ops : Int)) = false := by simpa using a1
          clear hall a1
          go_wp2_with fail
          (refine wp_region_mix [0, 1, 2, 3, 4, 5, 6, 7, 8, 9, 10, 11, 12, 13, 14, 15, 16] [(true, true), (true, false), (true, true), (true, true), (true, true), (true, false), (true, true), (true, true), (true, true), (true, false), (true, true), (true, true), (true, true), (true, true), (true, false), (true, true), (true, true)] [0, 1, 0, 4, 12, 28, 63, 127, 255, 511, 1023, 2047, 4095, 8191, 16383, 32767, 65535] _ (by kernel_rfl) (by kernel_rfl) (rfl : _ = _) ?_; simp only [pickL, List.map_cons, List.map_nil, List.getD_cons_succ, List.getD_cons_zero])
          (repeat (first | (refine mix_pure (fun hne K hK => ?_); go_simp; refine hK _ ?_; clear hK K hne) | (refine mix_load ?_ (fun K hK => ?_); (focus (first | rfl | (go_simp; done))); go_simp; refine hK _ ?_; clear hK K) | (refine mix_skip ?_ (fun K hK => ?_); (focus (first | rfl | (go_simp; done))); go_simp; refine hK _ ?_; clear hK K)))
          refine mix_done ?_
          go_wp2_with fail
          go_roundw
          case rel => exact ⟨k + 1, by omega, by go_num, HN.out, heap_old _ HR.out, HE.out⟩
          case measure => simp [intOf]; omega
    · obtain rfl : k = evs.length := by omega
      have hf := find_none hno
      have hR0 := cells_at hR 0 _ rfl
      have hR1 := cells_at hR 1 _ rfl
      have hR2 := cells_at hR 2 _ rfl
      have hR3 := cells_at hR 3 _ rfl
      have hRf0 := froz_at hR 0
      have hRf1 := froz_at hR 1
      have hRf2 := froz_at hR 2
      have hRf3 := froz_at hR 3
      have HF := Lib.hid hf
      clear hno hf
      go_wp2_with fail
      refine bodyPost_ret (res_ct rfl rfl (set4 hR) Try.underlying92 rfl (by kernel_rfl)) rfl ⟨nilV, ?_, ?_, ?_⟩
      · unfold comesOf; rw [HF.out]; rfl
      · unfold comesOf; rw [HF.out]; exact RB.nil _
      · exact put4 hbel r _ _ _ _ hrw
end Go.Proofs.Ytphnjiokihbhnaa
