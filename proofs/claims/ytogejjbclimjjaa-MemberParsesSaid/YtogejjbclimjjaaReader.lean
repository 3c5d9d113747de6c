/- cursor.Reader: what its methods take. -/
--only r2
import Derived.Test.YtogejjbclimjjaaR1
import Derived.Test.YtogejjbclimjjaaOnly
import Derived.Test.YtogejjbclimjjaaMix
import Derived.Test.YtogejjbclimjjaaWriter
import Derived.Laws.BitsAllLaws
namespace Go.Proofs.Ytogejjbclimjjaa
set_option linter.unusedVariables false
set_option linter.unusedSimpArgs false
open Go.RowKit

/-- a reader at block r: its bytes, and how many are taken -/
structure Rd (w : World) (r : Nat) (v : Value) (l : List UInt8) (k : Nat) : Prop where
  cell : w.heap[r]? = some (.cells #[v, .int .i64 k] 140 (0, 0))
  rb : RB w v l
  le : k ≤ l.length
theorem Rd.below {w w' : World} {r : Nat} {v : Value} {l : List UInt8} {k : Nat} (h : Rd w r v l k) (hb : Below w.heap.size w w') : Rd w' r v l k :=
  ⟨heap_keep hb h.cell, h.rb.below hb, h.le⟩
theorem Rd.noByte {w : World} {r : Nat} {v : Value} {l : List UInt8} {k : Nat} (h : Rd w r v l k) : NoByte w r := by
  obtain ⟨a, c, e, _⟩ := h.rb.form
  refine noByte_of h.cell (nb2 ?_ (nb_i64 _))
  rw [e]; exact nb_slice _ _ _

/-- what a reader that runs out gives up with -/
abbrev shortV (k : Nat) : Value := .iface 137 (.agg #[.int .i64 k])
abbrev shortPanic (k : Nat) : Ending := .panicked [{ v := shortV k, recovered := false }]
theorem run_short (k : Nat) (w : World) : (Instr.panic (shortV k)).run Try.prog w = .halt (.panic (shortV k)) w := rfl

set_option maxRecDepth 100000 in
set_option maxHeartbeats 1000000 in
theorem take_ok (r k n : Nat) (v : Value) (l : List UInt8) (w : World) (h : Rd w r v l k) (hn : k + n ≤ l.length) :
    Calls Try.prog 77 #[ptrV r, .int .i64 n] w fun e w' => ∃ x, e = .returned x ∧ RB w' x ((l.drop k).take n) ∧ Rd w' r v l (k + n) ∧ Only (fun b => b = r) w w' := by
  obtain ⟨i, hi, hz0, hz1, hz2⟩ := info_parts infoU8
  have hlm := h.rb.len
  obtain ⟨a, cap, rfl, hc, hm⟩ := h.rb.form
  have hcut : RB w (cutV a cap k (k + n)) ((l.drop k).take n) := by
    have := RV.cut h.rb (i := k) (j := k + n) (by omega) (by simpa using hn)
    unfold RB
    rwa [Nat.add_sub_cancel_left, ← List.map_drop, ← List.map_take] at this
  have hrun := run_cut (P := Try.prog) Try.underlying23 hi hz1 a l.length cap k (k + n) (by omega) (by omega)
  unfold maxLen at hm hlm
  obtain ⟨y, hy⟩ : ∃ y, y = cutV a cap k (k + n) := ⟨_, rfl⟩
  rw [← hy] at hcut hrun
  have hrun' : ∀ w, (Instr.sliceAt 23 (.slice a l.length cap) (some (.int .i64 k)) (some (.int .i64 (IntKind.i64.wrap ((k : Int) + (n : Int))))) none).run Try.prog w = .ok y w := fun w => by
    have := hrun w; rw [Int.natCast_add] at this; rw [IntWalk.i64_in _ (by omega)]; exact this
  have hsub : IntKind.i64.wrap ((l.length : Int) - (k : Int)) = ((l.length - k : Nat) : Int) := by rw [IntWalk.i64_in _ (by omega)]; omega
  have hdec : decide (l.length - k < n) = false := decide_eq_false (by omega)
  have hdn : decide ((n : Int) < 0) = false := decide_eq_false (by omega)
  have hP := h.cell
  have hnb := h.noByte
  have hyy : ∃ a' n' c', y = .slice a' n' c' := ⟨_, _, _, hy⟩
  obtain ⟨a', n', c', hys⟩ := hyy
  have HYS := Lib.hid hys
  clear hrun hy hys
  (have hP_0 := cells_at hP 0 _ rfl; have hP_1 := cells_at hP 1 _ rfl)
  have hPf := froz_at hP 1
  have hlt := heap_lt hP
  go_enter Try.func77, Try.ntmps77
  go_wp2_with fail
  (refine wp_region_mix [0, 1, 2, 3, 4, 5, 6, 7, 8, 9, 10, 11, 12, 13, 14, 15] [(true, true), (true, true), (true, true), (true, true), (true, true), (true, true), (true, true), (true, false), (true, true), (true, true), (true, true), (true, true), (true, false), (true, true), (true, true), (true, true)] [0, 1, 3, 7, 7, 23, 55, 119, 247, 7, 519, 1543, 3591, 8183, 16383, 32767] _ (by kernel_rfl) (by kernel_rfl) (rfl : _ = _) ?_; simp only [pickL, List.map_cons, List.map_nil, List.getD_cons_succ, List.getD_cons_zero])
  (repeat (first | (refine mix_pure (fun hne K hK => ?_); go_simp; refine hK _ ?_; clear hK K hne) | (refine mix_load ?_ (fun K hK => ?_); (focus (first | rfl | (go_simp; done))); go_simp; refine hK _ ?_; clear hK K) | (refine mix_skip ?_ (fun K hK => ?_); (focus (first | rfl | (go_simp; done))); go_simp; refine hK _ ?_; clear hK K)))
  refine mix_done ?_
  go_wp2_with fail
  (refine wp_region_mix [0, 1, 2, 3, 4, 5, 6, 7, 8, 9, 10, 11, 12, 13, 14, 15] [(true, true), (true, true), (true, true), (true, false), (true, true), (true, true), (true, true), (true, false), (true, true), (true, true), (true, true), (true, false), (true, true), (true, true), (true, true), (true, true)] [0, 1, 3, 7, 0, 16, 48, 112, 0, 256, 768, 1792, 0, 7936, 16383, 32767] _ (by kernel_rfl) (by kernel_rfl) (rfl : _ = _) ?_; simp only [pickL, List.map_cons, List.map_nil, List.getD_cons_succ, List.getD_cons_zero])
  (repeat (first | (refine mix_pure (fun hne K hK => ?_); go_simp; refine hK _ ?_; clear hK K hne) | (refine mix_load ?_ (fun K hK => ?_); (focus (first | rfl | (go_simp; done))); go_simp; refine hK _ ?_; clear hK K) | (refine mix_skip ?_ (fun K hK => ?_); (focus (first | rfl | (go_simp; done))); go_simp; refine hK _ ?_; clear hK K)))
  refine mix_done ?_
  have hys := HYS.out
  rw [hys] at hcut ⊢
  clear hrun' hsub hys HYS
  go_wp2_with fail
  go_ret
  have hO : Only (fun b => b = r) w w.drew.drew := (Only.refl _ _).drew.drew
  have hcell := set_at (o := 1) (w := w.drew.drew) hP (.int .i64 ((k : Int) + (n : Int)))
  have hO2 : Only (fun b => b = r) w (w.drew.drew.setCell ⟨r, 1, none⟩ (.int .i64 ((k : Int) + (n : Int)))) := hO.set _ _ (fun _ => rfl)
  refine ⟨_, rfl, hcut.only hO2 (fun b _ hb => by subst hb; exact hnb), ⟨?_, h.rb.only hO2 (fun b _ hb => by subst hb; exact hnb), hn⟩, hO2⟩
  rw [Int.natCast_add]
  exact hcell

set_option maxRecDepth 100000 in
set_option maxHeartbeats 1000000 in
theorem take_short (r k n : Nat) (v : Value) (l : List UInt8) (w : World) (h : Rd w r v l k) (hn : l.length < k + n) :
    Calls Try.prog 77 #[ptrV r, .int .i64 n] w fun e w' => e = shortPanic k ∧ Below w.heap.size w w' := by
  have hlm := h.rb.len
  obtain ⟨a, cap, rfl, hc, hm⟩ := h.rb.form
  unfold maxLen at hm hlm
  have hle := h.le
  have hsub : IntKind.i64.wrap ((l.length : Int) - (k : Int)) = ((l.length - k : Nat) : Int) := by rw [IntWalk.i64_in _ (by omega)]; omega
  have hdec : decide (l.length - k < n) = true := decide_eq_true (by omega)
  have hdn : decide ((n : Int) < 0) = false := decide_eq_false (by omega)
  have hP := h.cell
  (have hP_0 := cells_at hP 0 _ rfl; have hP_1 := cells_at hP 1 _ rfl)
  have hlt := heap_lt hP
  go_enter Try.func77, Try.ntmps77
  go_wp2_with fail
  (refine wp_region_mix [0, 1, 2, 3, 4, 5, 6, 7, 8, 9, 10, 11, 12, 13, 14, 15] [(true, true), (true, true), (true, true), (true, true), (true, true), (true, true), (true, true), (true, false), (true, true), (true, true), (true, true), (true, true), (true, false), (true, true), (true, true), (true, true)] [0, 1, 3, 7, 7, 23, 55, 119, 247, 7, 519, 1543, 3591, 8183, 16383, 32767] _ (by kernel_rfl) (by kernel_rfl) (rfl : _ = _) ?_; simp only [pickL, List.map_cons, List.map_nil, List.getD_cons_succ, List.getD_cons_zero])
  (repeat (first | (refine mix_pure (fun hne K hK => ?_); go_simp; refine hK _ ?_; clear hK K hne) | (refine mix_load ?_ (fun K hK => ?_); (focus (first | rfl | (go_simp; done))); go_simp; refine hK _ ?_; clear hK K) | (refine mix_skip ?_ (fun K hK => ?_); (focus (first | rfl | (go_simp; done))); go_simp; refine hK _ ?_; clear hK K)))
  refine mix_done ?_
  have hpan := run_short k
  go_wp2_with fail
  ((try simp only [Exit.inBlock, Exit.then]); refine ⟨rfl, ?_⟩)
  exact ⟨rfl, (Below.refl _ _).drew⟩

/-- the number of bytes, the lowest first -/
def leNum : List UInt8 → Nat
  | [] => 0
  | c :: l => c.toNat + 256 * leNum l
theorem leNum_lt (l : List UInt8) : leNum l < 256 ^ l.length := by
  induction l with
  | nil => simp [leNum]
  | cons c l ih =>
    have := c.toNat_lt
    simp only [leNum, List.length_cons, Nat.pow_succ]
    omega
theorem leNum_snoc (l : List UInt8) (c : UInt8) : leNum (l ++ [c]) = leNum l + c.toNat * 256 ^ l.length := by
  induction l with
  | nil => simp [leNum]
  | cons d l ih =>
    simp only [List.cons_append, leNum, List.length_cons, Nat.pow_succ, ih, Nat.mul_add]
    rw [← Nat.mul_assoc, Nat.mul_comm 256 (c.toNat), Nat.mul_assoc, Nat.mul_comm 256 (256 ^ l.length), Nat.add_assoc]

theorem or_step (N C j : Nat) (hN : N < 256 ^ j) (hj : j < 8) (hC : C < 256) : bits BinOp.or IntKind.u64 (N : Int) (IntKind.u64.wrap ((C : Int) * 2 ^ (8 * j))) = ((N + C * 256 ^ j : Nat) : Int) := by
  have hp : (256 : Nat) ^ j = 2 ^ (8 * j) := by rw [Nat.pow_mul]
  have hle : C * 256 ^ j + 256 ^ j ≤ 256 ^ 8 := by
    have h1 : 256 ^ (j + 1) ≤ 256 ^ 8 := Nat.pow_le_pow_right (by omega) (by omega)
    have h2 : (C + 1) * 256 ^ j ≤ 256 * 256 ^ j := Nat.mul_le_mul_right _ (by omega)
    rw [Nat.pow_succ, Nat.mul_comm] at h1
    rw [Nat.add_mul, Nat.one_mul] at h2
    omega
  have h8 : (256 : Nat) ^ 8 = 18446744073709551616 := by decide
  have hpos : 0 < 256 ^ j := Nat.pow_pos (by omega)
  have e : (C : Int) * 2 ^ (8 * j) = ((C * 256 ^ j : Nat) : Int) := by rw [hp]; simp
  rw [e, IntWalk.u64_in _ (by omega), u64_or_nat _ _ (by omega) (by omega), Nat.or_comm, hp]
  have := Nat.shiftLeft_add_eq_or_of_lt (i := 8 * j) (b := N) (by rw [← hp]; exact hN) C
  rw [Nat.shiftLeft_eq] at this
  rw [← this, Nat.add_comm]

set_option maxRecDepth 100000 in
set_option maxHeartbeats 1000000 in
theorem rnum_short (r k n : Nat) (v : Value) (l : List UInt8) (w : World) (h : Rd w r v l k) (hn : l.length < k + n) :
    Calls Try.prog 74 #[ptrV r, .int .i64 n] w fun e w' => e = shortPanic k ∧ Below w.heap.size w w' := by
  go_enter Try.func74, Try.ntmps74
  go_wp2_with fail
  refine (take_short r k n v l _ h hn).mono ?_
  rintro e w1 ⟨rfl, hb⟩
  ((try simp only [Exit.inBlock, Exit.then]); refine ⟨rfl, ?_⟩)
  exact ⟨rfl, hb⟩

set_option maxRecDepth 100000 in
set_option maxHeartbeats 1000000 in
theorem rnum_ok (r k n : Nat) (v : Value) (l : List UInt8) (w : World) (h : Rd w r v l k) (hn : k + n ≤ l.length) (h8 : n ≤ 8) :
    Calls Try.prog 74 #[ptrV r, .int .i64 n] w fun e w' => e = .returned (.int .u64 (leNum ((l.drop k).take n) : Nat)) ∧ Rd w' r v l (k + n) ∧ Only (fun b => b = r) w w' := by
  have T := take_ok r k n v l w h hn
  obtain ⟨m, hm⟩ : ∃ m, m = (l.drop k).take n := ⟨_, rfl⟩
  have hml : m.length = n := by rw [hm]; simp; omega
  rw [← hm] at T ⊢
  have HM := Lib.hid hml
  have TT := Lib.hid T
  clear T
  go_enter Try.func74, Try.ntmps74
  go_wp2_with fail
  refine TT.out.mono ?_
  rintro e w1 ⟨x, rfl, hx, hr, hO⟩
  obtain ⟨a, c, rfl, hlc, hcm⟩ := hx.form
  unfold maxLen at hcm
  have hm8 : m.length ≤ 8 := by omega
  clear hm hml
  go_wp2_with fail
  go_loopw [5, 12] (fun x5 x12 wr => ∃ j : Nat, j ≤ m.length ∧ x12 = .int .i64 j ∧ x5 = .int .u64 (leNum (m.take j) : Nat) ∧ Below w1.heap.size w1 wr) (fun _ x12 _ => m.length - (intOf x12).toNat)
  case atStart => exact ⟨0, Nat.zero_le _, rfl, rfl, Below.refl _ _⟩
  case round =>
    obtain ⟨j, hj, rfl, rfl, hb⟩ := hrel
    by_cases hlt : j < m.length
    · have hx' := hx.below hb
      obtain ⟨b, o, c', ee, _, _, hc⟩ := hx'.out (by omega)
      simp only [Value.slice.injEq] at ee
      obtain ⟨rfl, -, rfl⟩ := ee
      have hcj := hc j hlt
      obtain ⟨C, hC⟩ : ∃ C, C = m[j] := ⟨_, rfl⟩
      rw [← hC] at hcj
      have hC2 := C.toNat_lt
      have HC := Lib.hid hC
      obtain ⟨N, hN⟩ : ∃ N, N = leNum (m.take j) := ⟨_, rfl⟩
      have HN := Lib.hid hN
      rw [← hN]
      clear hc hx' hC hN
      go_wp2_with fail
      go_roundw
      case rel =>
        refine ⟨j + 1, by omega, by go_num, ?_, hb⟩
        have hN2 : N < 256 ^ j := by
          have := leNum_lt (m.take j)
          rw [← HN.out, List.length_take, Nat.min_eq_left (by omega)] at this
          exact this
        rw [or_step N C.toNat j hN2 (by omega) (by omega), List.take_succ_eq_append_getElem hlt, leNum_snoc, ← HN.out, ← HC.out, List.length_take, Nat.min_eq_left (by omega)]
      case measure => simp [intOf]; omega
    · obtain rfl : j = m.length := by omega
      rw [List.take_length]
      go_wp2_with fail
      go_ret
      exact ⟨rfl, hr.below hb, hO.trans (Only.new hb (fun b => b = r)) fun _ _ h => h⟩


set_option maxRecDepth 100000 in
set_option maxHeartbeats 400000 in
theorem rU8_short (r k : Nat) (v : Value) (l : List UInt8) (w : World) (h : Rd w r v l k) (hn : l.length < k + 1) :
    Calls Try.prog 45 #[ptrV r] w fun e w' => e = shortPanic k ∧ Below w.heap.size w w' := by
  go_enter Try.func45, Try.ntmps45
  go_wp2_with fail
  refine (rnum_short r k 1 v l _ h hn).mono ?_
  rintro e w1 ⟨rfl, hb⟩
  ((try simp only [Exit.inBlock, Exit.then]); refine ⟨rfl, ?_⟩)
  exact ⟨rfl, hb⟩
set_option maxRecDepth 100000 in
set_option maxHeartbeats 400000 in
theorem rU8_ok (r k : Nat) (v : Value) (l : List UInt8) (w : World) (h : Rd w r v l k) (hn : k + 1 ≤ l.length) :
    Calls Try.prog 45 #[ptrV r] w fun e w' => e = .returned (.int .u8 (leNum ((l.drop k).take 1) : Nat)) ∧ Rd w' r v l (k + 1) ∧ Only (fun b => b = r) w w' := by
  have hlt : leNum ((l.drop k).take 1) < 256 := by
    have := leNum_lt ((l.drop k).take 1)
    rw [List.length_take, List.length_drop, Nat.min_eq_left (by omega)] at this
    exact this
  have T := rnum_ok r k 1 v l w h hn (by omega)
  generalize leNum ((l.drop k).take 1) = N at T hlt ⊢
  have TT := Lib.hid T
  clear T
  go_enter Try.func45, Try.ntmps45
  go_wp2_with fail
  refine TT.out.mono ?_
  rintro e w1 ⟨rfl, hr, hO⟩
  go_wp2_with fail
  go_ret
  exact ⟨rfl, hr, hO⟩

set_option maxRecDepth 100000 in
set_option maxHeartbeats 400000 in
theorem rU16_short (r k : Nat) (v : Value) (l : List UInt8) (w : World) (h : Rd w r v l k) (hn : l.length < k + 2) :
    Calls Try.prog 46 #[ptrV r] w fun e w' => e = shortPanic k ∧ Below w.heap.size w w' := by
  go_enter Try.func46, Try.ntmps46
  go_wp2_with fail
  refine (rnum_short r k 2 v l _ h hn).mono ?_
  rintro e w1 ⟨rfl, hb⟩
  ((try simp only [Exit.inBlock, Exit.then]); refine ⟨rfl, ?_⟩)
  exact ⟨rfl, hb⟩
set_option maxRecDepth 100000 in
set_option maxHeartbeats 400000 in
theorem rU16_ok (r k : Nat) (v : Value) (l : List UInt8) (w : World) (h : Rd w r v l k) (hn : k + 2 ≤ l.length) :
    Calls Try.prog 46 #[ptrV r] w fun e w' => e = .returned (.int .u16 (leNum ((l.drop k).take 2) : Nat)) ∧ Rd w' r v l (k + 2) ∧ Only (fun b => b = r) w w' := by
  have hlt : leNum ((l.drop k).take 2) < 65536 := by
    have := leNum_lt ((l.drop k).take 2)
    rw [List.length_take, List.length_drop, Nat.min_eq_left (by omega)] at this
    exact this
  have T := rnum_ok r k 2 v l w h hn (by omega)
  generalize leNum ((l.drop k).take 2) = N at T hlt ⊢
  have TT := Lib.hid T
  clear T
  go_enter Try.func46, Try.ntmps46
  go_wp2_with fail
  refine TT.out.mono ?_
  rintro e w1 ⟨rfl, hr, hO⟩
  go_wp2_with fail
  go_ret
  exact ⟨rfl, hr, hO⟩

set_option maxRecDepth 100000 in
set_option maxHeartbeats 400000 in
theorem rU32_short (r k : Nat) (v : Value) (l : List UInt8) (w : World) (h : Rd w r v l k) (hn : l.length < k + 4) :
    Calls Try.prog 44 #[ptrV r] w fun e w' => e = shortPanic k ∧ Below w.heap.size w w' := by
  go_enter Try.func44, Try.ntmps44
  go_wp2_with fail
  refine (rnum_short r k 4 v l _ h hn).mono ?_
  rintro e w1 ⟨rfl, hb⟩
  ((try simp only [Exit.inBlock, Exit.then]); refine ⟨rfl, ?_⟩)
  exact ⟨rfl, hb⟩
set_option maxRecDepth 100000 in
set_option maxHeartbeats 400000 in
theorem rU32_ok (r k : Nat) (v : Value) (l : List UInt8) (w : World) (h : Rd w r v l k) (hn : k + 4 ≤ l.length) :
    Calls Try.prog 44 #[ptrV r] w fun e w' => e = .returned (.int .u32 (leNum ((l.drop k).take 4) : Nat)) ∧ Rd w' r v l (k + 4) ∧ Only (fun b => b = r) w w' := by
  have hlt : leNum ((l.drop k).take 4) < 4294967296 := by
    have := leNum_lt ((l.drop k).take 4)
    rw [List.length_take, List.length_drop, Nat.min_eq_left (by omega)] at this
    exact this
  have T := rnum_ok r k 4 v l w h hn (by omega)
  generalize leNum ((l.drop k).take 4) = N at T hlt ⊢
  have TT := Lib.hid T
  clear T
  go_enter Try.func44, Try.ntmps44
  go_wp2_with fail
  refine TT.out.mono ?_
  rintro e w1 ⟨rfl, hr, hO⟩
  go_wp2_with fail
  go_ret
  exact ⟨rfl, hr, hO⟩
end Go.Proofs.Ytogejjbclimjjaa
