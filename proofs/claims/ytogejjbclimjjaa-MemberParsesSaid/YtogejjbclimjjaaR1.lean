/- gabionref01: Zeros, Bytes, Part. -/
import Derived.Test.YtogejjbclimjjaaKit
import Derived.Test.YtogejjbclimjjaaProg
import Derived.OwnWalk
import Derived.KernelRfl
namespace Go.Proofs.Ytogejjbclimjjaa
set_option linter.unusedVariables false
set_option linter.unusedSimpArgs false
open Go.RowKit

theorem infoU8 : (Try.prog.info? 5).map (fun i => (i.zero, i.size, i.bytes)) = some (some (.int .u8 0), 1, 1) := by kernel_rfl

/-- what a call leaves that made one row: nothing old has turned -/
theorem below_grown_none {w w' : World} (hg : w.grownBy w' none) : Below w.heap.size w w' := (Below.refl _ _).grown hg (Nat.le_refl _) (fun _ h => by cases h)

theorem made_rep (z : Value) (hz : z.cells = #[z]) (n : Nat) : madeCells z.cells n = (List.replicate n z).toArray := by
  apply Array.ext
  · simp [madeCells]
  · intro i h1 h2
    simp [madeCells, hz, Nat.mod_one]

/-- make([]byte, n) -/
theorem make_u8 (n : Nat) (hn : n ≤ 281474976710656) (w : World) : (Instr.makeSlice 23 (.int .i64 n) (.int .i64 n)).run Try.prog w =
    .ok (.slice (some ⟨w.heap.size, 0, none⟩) n n) (w.alloc (.cells (List.replicate n (Value.int .u8 0)).toArray 5)) := by
  obtain ⟨i, hi, hz0, hz1, hz2⟩ := info_parts infoU8
  have h := run_make (P := Try.prog) w 23 5 i (.int .u8 0) Try.underlying23 hi hz0 .i64 .i64 n n (by omega) (by omega) (by rw [hz2]; omega) (by omega)
  rw [hz1, Nat.mul_one, made_rep _ rfl] at h
  simpa using h

theorem rep_u8 (n : Nat) : (List.replicate n (Value.int .u8 0)) = (List.replicate n (0 : UInt8)).map u8v := by rw [List.map_replicate]; rfl

theorem zeros_calls (n : Nat) (w : World) (hn : n ≤ 281474976710656) :
    Calls Try.prog 69 #[.int .i64 n] w fun e w' => e = .returned (.slice (some ⟨w.heap.size, 0, none⟩) n n) ∧ w' = w.alloc (.cells (List.replicate n (Value.int .u8 0)).toArray 5) := by
  have hmk := make_u8 n hn
  go_enter Try.func69, Try.ntmps69
  go_wp2_with fail
  go_ret
  exact ⟨rfl, rfl⟩

/-- the lowest n bytes of a number -/
def leBytes : Nat → Nat → List UInt8
  | 0, _ => []
  | n + 1, v => UInt8.ofNat (v % 256) :: leBytes n (v / 256)
theorem leBytes_length (n v : Nat) : (leBytes n v).length = n := by
  induction n generalizing v with
  | zero => rfl
  | succ n ih => simp [leBytes, ih]
theorem leBytes_succ (n v : Nat) : leBytes (n + 1) v = leBytes n v ++ [UInt8.ofNat (v / 256 ^ n % 256)] := by
  induction n generalizing v with
  | zero => simp [leBytes]
  | succ n ih =>
    rw [leBytes, ih, leBytes]
    simp only [List.cons_append]
    rw [Nat.div_div_eq_div_mul, Nat.pow_succ, Nat.mul_comm (256 ^ n)]

theorem cell_own {w : World} {base e : Nat} {v : Value} {n : Nat} {xs : List Value} (h : w.ownsRow base e 1 v n xs) : xs.length = n := by rw [h.1, Nat.mul_one]

set_option maxHeartbeats 1000000 in
theorem bytes_calls (n v : Nat) (w : World) (hn : n ≤ 8) (hv : v < 18446744073709551616) :
    Calls Try.prog 38 #[.int .u64 v, .int .i64 n] w fun e w' => ∃ x, e = .returned x ∧ w'.ownsRow w.heap.size 5 1 x n ((leBytes n v).map u8v) ∧ Below w.heap.size w w' := by
  obtain ⟨i, hi, hz0, hz1, hz2⟩ := info_parts infoU8
  go_enter Try.func38, Try.ntmps38
  go_wp2_with fail
  go_loopw [5, 0, 6] (fun x5 x0 x6 wr => ∃ k : Nat, k ≤ n ∧ x6 = .int .i64 k ∧ x0 = .int .u64 ((v / 256 ^ k : Nat) : Int) ∧ wr.ownsRow w.heap.size 5 1 x5 k ((leBytes k v).map u8v) ∧ Below w.heap.size w wr) (fun _ _ x6 _ => n - (intOf x6).toNat)
  case atStart => exact ⟨0, Nat.zero_le _, rfl, by simp, World.ownsRow_nil _ _ _ _, Below.refl _ _⟩
  case round =>
    obtain ⟨k, hk, rfl, rfl, hown, hbel⟩ := hrel
    by_cases hlt : k < n
    · obtain ⟨q, hq⟩ : ∃ q, q = v / 256 ^ k := ⟨_, rfl⟩
      have hqv : q ≤ v := by rw [hq]; exact Nat.div_le_self _ _
      rw [← hq]
      have hnx : (leBytes (k + 1) v).map u8v = (leBytes k v).map u8v ++ [u8v (UInt8.ofNat (q % 256))] := by
        rw [leBytes_succ, List.map_append, hq]; rfl
      have hdv : v / 256 ^ (k + 1) = q / 256 := by rw [hq, Nat.div_div_eq_div_mul, Nat.pow_succ]
      have hbv : u8v (UInt8.ofNat (q % 256)) = .int .u8 ((q : Int) % 256) := by
        show Value.int .u8 ((UInt8.ofNat (q % 256)).toNat : Int) = _
        rw [u8_mod]; simp
      rw [hbv] at hnx
      have HN := Lib.hid hnx
      have HD := Lib.hid hdv
      clear hnx hdv hbv hq
      have hsz := hbel.size
      go_wp2_with (at_builtin; refine wpList_append_own _ rfl _ _ 23 rfl w.heap.size 5 i (.int .u8 0) 1 1 Try.underlying23 hi hz0 hz1 hz2 rfl (by decide) _ _ _ rfl (hown.alloc _) ⟨wr.heap.size, 0, none⟩ 1 1 [.int .u8 ((q : Int) % 256)] rfl rfl ?c1 ?c2 ?c3 ?c4 ?c5 ?_)
      case c1 => exact cell_one_new _ _ _
      case c2 => exact one_cell rfl
      case c3 => unfold maxLen; omega
      case c4 => omega
      case c5 => simp; omega
      intro v' w1 hown' hgrow _
      have hb1 := below_push hbel hown _ hgrow hsz (Nat.le_refl _)
      go_wp2_with fail
      go_roundw
      case rel => exact ⟨k + 1, by omega, by go_num, by rw [HD.out]; go_num, by rw [HN.out]; exact hown', hb1⟩
      case measure => simp [intOf]; omega
    · obtain rfl : k = n := by omega
      go_wp2_with fail
      go_ret
      exact ⟨_, rfl, hown, hbel⟩

theorem part_calls (v : Value) (l : List UInt8) (at' n : Nat) (w : World) (hv : RB w v l) (h : at' + n ≤ l.length) (hl : n ≤ 140737488355328) :
    Calls Try.prog 68 #[v, .int .i64 at', .int .i64 n] w fun e w' => ∃ x, e = .returned x ∧ w'.ownsRow w.heap.size 5 1 x n (((l.drop at').take n).map u8v) ∧ Below w.heap.size w w' := by
  obtain ⟨i, hi, hz0, hz1, hz2⟩ := info_parts infoU8
  have hlm := hv.len
  obtain ⟨a, cap, rfl, hc, hm⟩ := hv.form
  have hcut := RV.cut hv (i := at') (j := at' + n) (by omega) (by simpa using h)
  have hrun := run_cut Try.underlying23 hi hz1 a l.length cap at' (at' + n) (by omega) (by omega)
  unfold maxLen at hm hlm
  have hp : ((l.map u8v).drop at').take (at' + n - at') = ((l.drop at').take n).map u8v := by rw [Nat.add_sub_cancel_left, ← List.map_drop, ← List.map_take]
  rw [hp] at hcut
  have hpl : ((l.drop at').take n).length = n := by simp; omega
  obtain ⟨m, hm'⟩ : ∃ m, m = (l.drop at').take n := ⟨_, rfl⟩
  rw [← hm'] at hcut hpl
  obtain ⟨y, hy⟩ : ∃ y, y = cutV a cap at' (at' + n) := ⟨_, rfl⟩
  rw [← hy] at hcut hrun
  have hrun' : ∀ w, (Instr.sliceAt 23 (.slice a l.length cap) (some (.int .i64 at')) (some (.int .i64 ((at' : Int) + (n : Int)))) none).run Try.prog w = .ok y w := fun w => by
    have := hrun w; rwa [Int.natCast_add] at this
  rw [← hm']
  clear hy hrun hp hm'
  go_enter Try.func68, Try.ntmps68
  go_wp2_with (at_builtin; refine wpList_append_RV rfl _ _ 23 rfl w.heap.size 5 i (.int .u8 0) 1 Try.underlying23 hi hz0 hz1 hz2 rfl _ 0 [] rfl (World.ownsRow_nil _ _ _ _) y _ rfl hcut ?c1 ?c2 ?c3 ?c4 ?_)
  case c1 => exact oneCell_u8 _
  case c2 => simp [maxLen, hpl]; omega
  case c3 => simp [hpl]; omega
  case c4 => exact Nat.le_refl _
  intro v' w1 hown hgrow _
  have hown' : w1.ownsRow w.heap.size 5 1 v' n (m.map u8v) := by simpa [hpl] using hown
  have hb := (Below.refl w.heap.size w).grown hgrow (Nat.le_refl _) (fun _ h => by cases h)
  go_wp2_with fail
  go_ret
  exact ⟨_, rfl, hown', hb⟩
end Go.Proofs.Ytogejjbclimjjaa
