/- sum.Of: the sum of parts is the plain sum of all of them in one; nothing is written. -/
import Derived.Test.YtogejjbclimjjaaCrc
import Derived.Test.YtogejjbclimjjaaProg
namespace Go.Proofs.Ytogejjbclimjjaa
set_option linter.unusedVariables false
set_option linter.unusedSimpArgs false
open Go.RowKit

theorem flat_next (ls : List (List UInt8)) (k : Nat) (h : k < ls.length) : (ls.take (k + 1)).flatten = (ls.take k).flatten ++ ls[k] := by
  rw [List.take_succ_eq_append_getElem h, List.flatten_append, List.flatten_cons, List.flatten_nil, List.append_nil]

set_option maxHeartbeats 1000000 in
theorem sum_of (v : Value) (ls : List (List UInt8)) (w : World) (hv : RBB w v ls) :
    Calls Try.prog 72 #[v] w fun e w' => e = .returned (u32v (crcOf ls.flatten)) ∧ w = w' := by
  obtain ⟨a, cap, rfl, hcap, hmax, hv⟩ := hv.shape
  go_enter Try.func72, Try.ntmps72
  go_wp2
  go_loop [3, 10] (fun s i => ∃ k : Nat, k ≤ ls.length ∧ i = .int .i64 k ∧ s = .int .u32 ((crcFold 4294967295#32 (ls.take k).flatten).toNat : Int)) (fun _ i => ls.length - (intOf i).toNat)
  case atStart => exact ⟨0, Nat.zero_le _, rfl, rfl⟩
  case round =>
    obtain ⟨k, hk, rfl, rfl⟩ := hrel
    by_cases hlt : k < ls.length
    · obtain ⟨b, o, rfl, hc⟩ := hv.resolve_left (by rintro rfl; simp at hlt)
      obtain ⟨x, hx, hx0⟩ := hc k hlt
      obtain ⟨a1, cap1, rfl, hlk, hlk2, hx1⟩ := hx0.shape
      clear hx0
      have hnext := flat_next ls k hlt
      clear hc
      obtain ⟨m, hm⟩ : ∃ m, m = ls[k] := ⟨_, rfl⟩
      have HM := Lib.hid hnext
      clear hnext
      rw [← hm] at hlk hx hx1 HM
      clear hm
      obtain ⟨s0, hs0⟩ : ∃ s0, s0 = crcFold 4294967295#32 (ls.take k).flatten := ⟨_, rfl⟩
      rw [← hs0]
      have HS := Lib.hid hs0
      clear hs0
      go_wp2
      go_loop [3, 16] (fun s i => ∃ j : Nat, j ≤ m.length ∧ i = .int .i64 j ∧ s = .int .u32 ((crcFold s0 (m.take j)).toNat : Int)) (fun _ i => m.length - (intOf i).toNat)
      case atStart => exact ⟨0, Nat.zero_le _, rfl, by simp [crcFold]⟩
      case round =>
        obtain ⟨j, hj, rfl, rfl⟩ := hrel
        by_cases hjl : j < m.length
        · obtain ⟨b1, o1, rfl, hc1⟩ := hx1.resolve_left (by rintro rfl; simp at hjl)
          have hcj := hc1 j hjl
          clear hc1
          have hnj : crcFold s0 (m.take (j + 1)) = crcByte (crcFold s0 (m.take j)) m[j] := by
            rw [List.take_succ_eq_append_getElem hjl, crcFold_snoc]
          have HJ := Lib.hid hnj
          clear hnj
          obtain ⟨c, hc⟩ : ∃ c, c = m[j] := ⟨_, rfl⟩
          rw [← hc] at hcj HJ
          clear hc
          obtain ⟨s1, hs1⟩ : ∃ s1, s1 = crcFold s0 (m.take j) := ⟨_, rfl⟩
          rw [← hs1] at HJ
          rw [← hs1]
          clear hs1
          have e2 := bits_xor32_8 s1 c
          have hc8 : c.toNat < 256 := c.toNat_lt
          obtain ⟨s2, hs2⟩ : ∃ s2, s2 = s1 ^^^ c.toBitVec.setWidth 32 := ⟨_, rfl⟩
          have HC : Hid (crcByte s1 c = crcBits 8 s2) := by rw [hs2]; exact rfl
          rw [← hs2] at e2
          clear hs2
          go_wp2
          clear e2
          go_loop [3, 24] (fun s i => ∃ n : Nat, n ≤ 8 ∧ i = .int .i64 n ∧ s = .int .u32 ((crcBits n s2).toNat : Int)) (fun _ i => 8 - (intOf i).toNat)
          case atStart => exact ⟨0, by omega, rfl, rfl⟩
          case round =>
            obtain ⟨n, hn, rfl, rfl⟩ := hrel
            obtain ⟨s3, hs3⟩ : ∃ s3, s3 = crcBits n s2 := ⟨_, rfl⟩
            have HB : Hid (crcBits (n + 1) s2 = crcBit s3) := by rw [crcBits_succ, hs3]; exact rfl
            rw [← hs3]
            by_cases hn8 : n < 8
            · clear hs3
              rcases Bool.eq_false_or_eq_true (s3.getLsbD 0) with hb | hb
              · have e3 := bit_odd s3 hb
                have e4 := crc_odd s3 hb
                clear hb
                go_wp2
                go_round
                case rel => exact ⟨n + 1, by omega, by go_num, by rw [HB.out]⟩
                case measure => simp [intOf]; omega
              · have e3 := bit_even s3 hb
                have e4 := crc_even s3 hb
                clear hb
                go_wp2
                go_round
                case rel => exact ⟨n + 1, by omega, by go_num, by rw [HB.out]⟩
                case measure => simp [intOf]; omega
            · obtain rfl : n = 8 := by omega
              clear HB
              go_wp2
              go_round
              case rel => exact ⟨j + 1, by omega, by go_num, by rw [HJ.out, HC.out, hs3]⟩
              case measure => simp [intOf]; omega
        · obtain rfl : j = m.length := by omega
          have HT : Hid (crcFold s0 (m.take m.length) = crcFold s0 m) := by rw [List.take_length]; exact rfl
          go_wp2
          go_round
          case rel => exact ⟨k + 1, by omega, by go_num, by rw [HT.out, HM.out, crcFold_append, HS.out]⟩
          case measure => simp [intOf]; omega
    · obtain rfl : k = ls.length := by omega
      have HT : Hid (crcFold 4294967295#32 (ls.take ls.length).flatten = crcFold 4294967295#32 ls.flatten) := by rw [List.take_length]; exact rfl
      obtain ⟨s0, hs0⟩ : ∃ s0, s0 = crcFold 4294967295#32 (ls.take ls.length).flatten := ⟨_, rfl⟩
      rw [← hs0]
      have HS := Lib.hid hs0
      clear hs0
      have e := not32 s0
      go_wp2
      go_ret
      exact ⟨congrArg (fun n : Nat => Ending.returned (.int .u32 (n : Int))) (by rw [HS.out, HT.out, crcOf]; simp), rfl⟩
/-- of one part, in a new row of its own -/
theorem sum_one (v : Value) (l : List UInt8) (w : World) (t : TypeId) (hv : RB w v l) :
    Calls Try.prog 72 #[.slice (some ⟨w.heap.size, 0, none⟩) 1 1] (w.alloc (.cells #[v] t)) fun e w' => e = .returned (u32v (crcOf l)) ∧ Below w.heap.size w w' := by
  have hb : Below w.heap.size w (w.alloc (.cells #[v] t)) := (Below.refl _ _).alloc (Nat.le_refl _) _
  refine (sum_of _ [l] _ (RBB.cell1 (cell_is rfl rfl) (hv.below hb))).mono ?_
  rintro e w' ⟨rfl, rfl⟩
  rw [show [l].flatten = l by simp]
  exact ⟨rfl, hb⟩

end Go.Proofs.Ytogejjbclimjjaa
