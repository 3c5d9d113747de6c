/- Layer 1's answer: Num, IsZero. -/
--only r2
import Derived.Test.YtogejjbclimjjaaReader
import Derived.Test.YtogejjbclimjjaaMix
namespace Go.Proofs.Ytogejjbclimjjaa
set_option linter.unusedVariables false
set_option linter.unusedSimpArgs false
open Go.RowKit

set_option maxRecDepth 100000 in
set_option maxHeartbeats 1000000 in
theorem num_calls (v : Value) (l : List UInt8) (k n : Nat) (w : World) (h : RB w v l) (hn : k + n ≤ l.length) (h7 : n ≤ 7) :
    Calls Try.prog 49 #[v, .int .i64 k, .int .i64 n] w fun e w' => e = .returned (.int .u64 (leNum ((l.drop k).take n) : Nat)) ∧ w = w' := by
  obtain ⟨m, hm⟩ : ∃ m, m = (l.drop k).take n := ⟨_, rfl⟩
  have hml : m.length = n := by rw [hm]; simp; omega
  have hmj : ∀ j (hj : j < m.length) (hk : k + j < l.length), m[j] = l[k + j] := fun j hj hk => by
    subst hm
    simp only [List.getElem_take, List.getElem_drop]
  obtain ⟨a, c, rfl, hlc, hcm⟩ := h.form
  unfold maxLen at hcm
  rw [← hm]
  have HM := Lib.hid (⟨hml, hmj, h7, hn⟩ : _ ∧ _ ∧ _ ∧ _)
  clear hm hmj hml
  go_enter Try.func49, Try.ntmps49
  go_wp2_with fail
  go_loopw [7, 8, 9] (fun x7 x8 x9 wr => ∃ j : Nat, j ≤ m.length ∧ x9 = .int .i64 j ∧ x8 = .int .u64 ((256 ^ j : Nat) : Int) ∧ x7 = .int .u64 (leNum (m.take j) : Nat) ∧ w = wr) (fun _ _ x9 _ => m.length - (intOf x9).toNat)
  case atStart => exact ⟨0, Nat.zero_le _, rfl, rfl, rfl, rfl⟩
  case round =>
    obtain ⟨j, hj, rfl, rfl, rfl, rfl⟩ := hrel
    by_cases hlt : j < m.length
    · have hjn : (j : Int) < (n : Int) := by rw [← HM.out.1]; omega
      have hkj : k + j < l.length := by have := HM.out.1; omega
      obtain ⟨b, o, c', ee, _, _, hc⟩ := h.out (by omega)
      simp only [Value.slice.injEq] at ee
      obtain ⟨rfl, -, rfl⟩ := ee
      have hcj := hc (k + j) hkj
      obtain ⟨C, hC⟩ : ∃ C, C = m[j] := ⟨_, rfl⟩
      rw [← HM.out.2.1 j hlt hkj, ← hC] at hcj
      have hC2 := C.toNat_lt
      obtain ⟨N, hN⟩ : ∃ N, N = leNum (m.take j) := ⟨_, rfl⟩
      obtain ⟨P, hP⟩ : ∃ P, P = 256 ^ j := ⟨_, rfl⟩
      have hP1 : P * 256 ≤ 256 ^ 7 := by
        rw [hP, ← Nat.pow_succ]
        exact Nat.pow_le_pow_right (by decide) (by have := HM.out.1; have := HM.out.2.2.1; omega)
      have hN1 : N < P := by
        have := leNum_lt (m.take j)
        rw [← hN, List.length_take, Nat.min_eq_left (by omega)] at this
        rw [hP]; exact this
      obtain ⟨S, hS⟩ : ∃ S, S = C.toNat * P := ⟨_, rfl⟩
      have hS1 : S ≤ 255 * P := by rw [hS]; exact Nat.mul_le_mul_right P (by omega)
      have hmul : ((C.toNat : Nat) : Int) * (P : Int) = (S : Int) := by rw [hS, Int.natCast_mul]
      have e1 : IntKind.u64.wrap (S : Int) = (S : Int) := by rw [IntKind.wrap_u64]; omega
      have e2 : IntKind.u64.wrap ((N : Int) + (S : Int)) = (N : Int) + (S : Int) := by rw [IntKind.wrap_u64]; omega
      have e3 : IntKind.u64.wrap ((P : Int) * 256) = (P : Int) * 256 := by rw [IntKind.wrap_u64]; omega
      have hnx : leNum (m.take (j + 1)) = N + S := by
        rw [List.take_succ_eq_append_getElem hlt, leNum_snoc, ← hN, ← hC, List.length_take, Nat.min_eq_left (by omega), ← hP, ← hS]
      have hpx : 256 ^ (j + 1) = P * 256 := by rw [Nat.pow_succ, ← hP]
      have HX := Lib.hid (⟨hnx, hpx⟩ : _ ∧ _)
      have hidx : ((k : Int) + (j : Int)) < (l.length : Int) := by omega
      rw [← hN, ← hP]
      clear hN hP hnx hpx hS hC hc
      go_wp2_with fail
      go_roundw
      case rel => exact ⟨j + 1, hlt, by go_num, by rw [HX.out.2]; push_cast; rfl, by rw [HX.out.1]; push_cast; rfl, trivial⟩
      case measure =>
        show m.length - ((j : Int) + 1).toNat < m.length - (j : Int).toNat
        omega
    · obtain rfl : j = m.length := by omega
      have hjn : (m.length : Int) = (n : Int) := by rw [← HM.out.1]
      have hne : ¬ ((m.length : Int) < (n : Int)) := by omega
      rw [List.take_length]
      clear hjn
      go_wp2_with fail
      go_ret
      exact ⟨rfl, rfl⟩

set_option maxRecDepth 100000 in
set_option maxHeartbeats 1000000 in
theorem isZero_calls (v : Value) (l : List UInt8) (w : World) (h : RB w v l) :
    Calls Try.prog 51 #[v] w fun e w' => e = .returned (.bool (l.all (· == 0))) ∧ w = w' := by
  obtain ⟨a, c, rfl, hlc, hcm⟩ := h.form
  unfold maxLen at hcm
  have hfin : ∀ (b : Bool), b = l.all (· == 0) → (fun (e : Ending) (w' : World) => e = Ending.returned (.bool (l.all (· == 0))) ∧ w = w') (.returned (.bool b)) w := fun b hb => ⟨by rw [hb], rfl⟩
  generalize (fun (e : Ending) (w' : World) => e = Ending.returned (.bool (l.all (· == 0))) ∧ w = w') = Post at hfin ⊢
  have HF := Lib.hid hfin
  clear hfin
  go_enter Try.func51, Try.ntmps51
  go_wp2_with fail
  go_loopw [3] (fun x3 wr => ∃ j : Nat, j ≤ l.length ∧ x3 = .int .i64 j ∧ (l.take j).all (· == 0) = true ∧ w = wr) (fun x3 _ => l.length - (intOf x3).toNat)
  case atStart => exact ⟨0, Nat.zero_le _, rfl, rfl, rfl⟩
  case round =>
    obtain ⟨j, hj, rfl, hall, rfl⟩ := hrel
    by_cases hlt : j < l.length
    · obtain ⟨b, o, c', ee, _, _, hc⟩ := h.out (by omega)
      simp only [Value.slice.injEq] at ee
      obtain ⟨rfl, -, rfl⟩ := ee
      have hcj := hc j hlt
      obtain ⟨C, hC⟩ : ∃ C, C = l[j] := ⟨_, rfl⟩
      rw [← hC] at hcj
      have hjl : (j : Int) < (l.length : Int) := by omega
      have hsplit : l = l.take j ++ C :: l.drop (j + 1) := by rw [hC]; simp
      have hC2 := C.toNat_lt
      by_cases hz : C = 0
      · have e1 : ((C.toNat : Int) != 0) = false := by rw [hz]; rfl
        have hnx : (l.take (j + 1)).all (· == 0) = true := by
          rw [List.take_succ_eq_append_getElem hlt, List.all_append, hall, ← hC, hz]; rfl
        have HX := Lib.hid hnx
        clear hz hC hall hnx hsplit hc
        go_wp2_with fail
        go_roundw
        case rel => exact ⟨j + 1, by omega, by go_num, HX.out, trivial⟩
        case measure =>
          show l.length - ((j : Int) + 1).toNat < l.length - (j : Int).toNat
          omega
      · have e1 : ((C.toNat : Int) != 0) = true := by
          rw [bne_iff_ne]
          intro h0
          exact hz (UInt8.toNat_inj.mp (by rw [show (0 : UInt8).toNat = 0 from rfl]; omega))
        have hno : false = l.all (· == 0) := by
          rw [hsplit, List.all_append, hall, List.all_cons]
          simp [hz]
        have HX := Lib.hid (HF.out false hno)
        clear hz hC hall hno hsplit hc
        go_wp2_with fail
        exact HX.out
    · obtain rfl : j = l.length := by omega
      rw [List.take_length] at hall
      have HX := Lib.hid (HF.out true hall.symm)
      clear hall hlt hj
      go_wp2_with fail
      exact HX.out
end Go.Proofs.Ytogejjbclimjjaa
