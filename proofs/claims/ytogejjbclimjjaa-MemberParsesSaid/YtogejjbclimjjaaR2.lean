/- gabionref02.Of: the plain sum, byte by byte. -/
import Derived.Test.YtogejjbclimjjaaCrc
import Derived.Test.YtogejjbclimjjaaProg
namespace Go.Proofs.Ytogejjbclimjjaa
set_option linter.unusedVariables false
set_option linter.unusedSimpArgs false
open Go.RowKit

theorem rem2_odd (s : BitVec 32) (h : s.getLsbD 0 = true) : (s.toNat : Int) % 2 = 1 := by
  rw [BitVec.getLsbD, Nat.testBit_zero] at h
  have : s.toNat % 2 = 1 := by simpa using h
  omega
theorem rem2_even (s : BitVec 32) (h : s.getLsbD 0 = false) : (s.toNat : Int) % 2 = 0 := by
  rw [BitVec.getLsbD, Nat.testBit_zero] at h
  have : s.toNat % 2 = 0 := by simp at h; omega
  omega

set_option maxHeartbeats 1000000 in
theorem ref_of (v : Value) (l : List UInt8) (w : World) (hv : RB w v l) :
    Calls Try.prog 70 #[v] w fun e w' => e = .returned (u32v (crcOf l)) ∧ w = w' := by
  obtain ⟨a, cap, rfl, hcap, hmax, hv⟩ := hv.shape
  go_enter Try.func70, Try.ntmps70
  go_wp2
  go_loop [3, 4] (fun s i => ∃ j : Nat, j ≤ l.length ∧ i = .int .i64 j ∧ s = .int .u32 ((crcFold 4294967295#32 (l.take j)).toNat : Int)) (fun _ i => l.length - (intOf i).toNat)
  case atStart => exact ⟨0, Nat.zero_le _, rfl, by simp [crcFold]⟩
  case round =>
    obtain ⟨j, hj, rfl, rfl⟩ := hrel
    by_cases hjl : j < l.length
    · obtain ⟨b1, o1, rfl, hc1⟩ := hv.resolve_left (by rintro rfl; simp at hjl)
      have hcj := hc1 j hjl
      clear hc1
      have hnj : crcFold 4294967295#32 (l.take (j + 1)) = crcByte (crcFold 4294967295#32 (l.take j)) l[j] := by
        rw [List.take_succ_eq_append_getElem hjl, crcFold_snoc]
      have HJ := Lib.hid hnj
      clear hnj
      obtain ⟨c, hc⟩ : ∃ c, c = l[j] := ⟨_, rfl⟩
      rw [← hc] at hcj HJ
      clear hc
      obtain ⟨s1, hs1⟩ : ∃ s1, s1 = crcFold 4294967295#32 (l.take j) := ⟨_, rfl⟩
      rw [← hs1] at HJ
      rw [← hs1]
      clear hs1
      have e2 := bits_xor32_8 s1 c
      have hc8 : c.toNat < 256 := c.toNat_lt
      obtain ⟨s2, hs2⟩ : ∃ s2, s2 = s1 ^^^ c.toBitVec.setWidth 32 := ⟨_, rfl⟩
      have HC : Hid (crcByte s1 c = crcBits 8 s2) := by rw [hs2]; exact rfl
      rw [← hs2] at e2
      clear hs2
      go_wp2
      clear e2
      go_loop [3, 5] (fun s i => ∃ n : Nat, n ≤ 8 ∧ i = .int .i64 n ∧ s = .int .u32 ((crcBits n s2).toNat : Int)) (fun _ i => 8 - (intOf i).toNat)
      case atStart => exact ⟨0, by omega, rfl, rfl⟩
      case round =>
        obtain ⟨n, hn, rfl, rfl⟩ := hrel
        obtain ⟨s3, hs3⟩ : ∃ s3, s3 = crcBits n s2 := ⟨_, rfl⟩
        have HB : Hid (crcBits (n + 1) s2 = crcBit s3) := by rw [crcBits_succ, hs3]; exact rfl
        rw [← hs3]
        have hs3l := s3.isLt
        by_cases hn8 : n < 8
        · clear hs3
          rcases Bool.eq_false_or_eq_true (s3.getLsbD 0) with hb | hb
          · have e3 := rem2_odd s3 hb
            have e4 := crc_odd s3 hb
            clear hb
            go_wp2
            go_round
            case rel => exact ⟨n + 1, by omega, by go_num, by rw [HB.out]⟩
            case measure => simp [intOf]; omega
          · have e3 := rem2_even s3 hb
            have e4 := crc_even s3 hb
            clear hb
            go_wp2
            go_round
            case rel => exact ⟨n + 1, by omega, by go_num, by rw [HB.out]⟩
            case measure => simp [intOf]; omega
        · obtain rfl : n = 8 := by omega
          clear HB
          go_wp2
          go_round
          case rel => exact ⟨j + 1, by omega, by go_num, by rw [HJ.out, HC.out, hs3]⟩
          case measure => simp [intOf]; omega
    · obtain rfl : j = l.length := by omega
      have HT : Hid (crcFold 4294967295#32 (l.take l.length) = crcFold 4294967295#32 l) := by rw [List.take_length]; exact rfl
      obtain ⟨s0, hs0⟩ : ∃ s0, s0 = crcFold 4294967295#32 (l.take l.length) := ⟨_, rfl⟩
      rw [← hs0]
      have HS := Lib.hid hs0
      clear hs0
      have hlt := s0.isLt
      go_wp2
      go_ret
      exact ⟨congrArg (fun n : Int => Ending.returned (.int .u32 n)) (by rw [crcOf, ← HT.out, ← HS.out]; simp; omega), rfl⟩
end Go.Proofs.Ytogejjbclimjjaa
