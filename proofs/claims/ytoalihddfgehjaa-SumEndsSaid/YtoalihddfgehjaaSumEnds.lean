/- SumEnds: the walk. -/
import Derived.Test.YtoalihddfgehjaaKnown
import Derived.Test.YtoalihddfgehjaaCrcBits
namespace Go.Proofs.Ytoalihddfgehjaa.lawSumEnds
set_option linter.unusedVariables false
set_option linter.unusedSimpArgs false
open Go.RowKit Go.ChangeShapes Go.WideShapes

theorem le4_bytes (x : BitVec 32) : leBytes 4 x.toNat = le4 x := by
  simp only [leBytes, le4]
  have e : ∀ n : Nat, UInt8.ofNat (n % 256) = UInt8.ofNat n := fun n => by
    apply UInt8.toNat.inj; simp
  simp only [e]
  have h (k : Nat) : UInt8.ofNat (x.toNat / 2 ^ k) = ⟨(x >>> k).setWidth 8⟩ := by
    apply UInt8.toNat.inj
    rw [UInt8.toNat_ofNat', UInt8.toNat_ofBitVec, BitVec.toNat_setWidth, BitVec.toNat_ushiftRight, Nat.shiftRight_eq_div_pow]
  have h0 := h 0
  have h8 := h 8
  have h16 := h 16
  have h24 := h 24
  simp only [Nat.reducePow, Nat.div_one, BitVec.ushiftRight_zero] at h0 h8 h16 h24
  rw [h0, h8, Nat.div_div_eq_div_mul, h16, Nat.div_div_eq_div_mul, h24]

set_option maxHeartbeats 2000000 in
theorem law (v : Value) (l : List UInt8) (w : World) (hv : RB w v l) :
    Calls Try.prog 7 #[v] w fun e w' => e = .returned (.bool true) ∧ Below w.heap.size w w' := by
  have hlm := hv.len
  obtain ⟨a, cap, rfl, hcap, hm⟩ := hv.form
  unfold maxLen at hm hlm
  by_cases hl : 600 < l.length
  · go_enter Try.func7, Try.ntmps7
    go_wp2_with fail
    refine (known_calls _).mono ?_
    rintro e w1 ⟨rfl, hb1⟩
    go_wp2_with fail
    refine (known_calls _).mono ?_
    rintro e w2 ⟨rfl, hb2⟩
    go_wp2_with fail
    go_ret
    exact ⟨rfl, hb1.trans (hb2.mono hb1.size)⟩
  · go_enter Try.func7, Try.ntmps7
    go_wp2_with fail
    refine (known_calls _).mono ?_
    rintro e w1 ⟨rfl, hb1⟩
    have hA := hv.below hb1
    go_wp2_with fail
    refine (sum_of _ [l] _ (RBB.cell1 (by simp) (hA.below (by go_grown)))).mono ?_
    rintro e w2 ⟨rfl, rfl⟩
    have hfl : [l].flatten = l := by simp
    rw [hfl]
    obtain ⟨x, hx⟩ : ∃ x, x = crcOf l := ⟨_, rfl⟩
    rw [← hx]
    have HX := Lib.hid hx
    clear hx hfl
    have hxl := x.isLt
    go_wp2_with fail
    refine (bytes_calls 4 x.toNat _ (by omega) (by omega)).mono ?_
    rintro e w3 ⟨y, rfl, hown, hb3⟩
    obtain ⟨a3, k3, rfl⟩ := own_slice hown
    have hB : RB w3 _ (leBytes 4 x.toNat) := RV.own hown
    rw [le4_bytes] at hB
    have hA3 := (hA.below (w' := w1.alloc _) (by go_grown)).below hb3
    go_wp2_with fail
    refine (sum_of _ [l, le4 x] _ (RBB.cell2 (by simp) (by simp) (hA3.below (by go_grown)) (hB.below (by go_grown)))).mono ?_
    rintro e w4 ⟨rfl, rfl⟩
    obtain ⟨z, hz⟩ : ∃ z, z = crcOf [[0, 0, 0, 0]].flatten := ⟨_, rfl⟩
    have he : crcOf [l, le4 x].flatten = z := by
      have := ends l
      rw [hz, HX.out]; simpa using this
    rw [he]
    have HZ := Lib.hid hz
    clear hz he
    go_wp2_with fail
    refine (zeros_calls 4 _ (by omega)).mono ?_
    rintro e w5 ⟨rfl, rfl⟩
    go_wp2_with fail
    refine (sum_of _ [[0, 0, 0, 0]] _ (RBB.cell1 (v := .slice (some ⟨w3.heap.size + 1, 0, none⟩) 4 4) (cell_is (by simp) rfl) (RB.block (l := [0, 0, 0, 0]) (heap_old _ (heap_is (by simp))) rfl (by decide) (by unfold maxLen; omega)))).mono ?_
    rintro e w6 ⟨rfl, rfl⟩
    rw [← HZ.out]
    go_wp2_with fail
    go_ret
    refine ⟨rfl, hb1.trans (Below.mono (B := w1.heap.size) ?_ hb1.size)⟩
    have hb4 : Below w1.heap.size w1 w3 := (Below.trans (by go_grown) (hb3.mono (by simp)))
    have := hb4.size
    exact Below.trans hb4 (by go_grown)

theorem walk {H : Type} (enc : TypeId × Value → H) (W : World) (base : Nat) (v0 : Value) (d0 : DataW H) (p0 : List MemPlace)
    (hv0 : Value.okWide Try.prog W .any base 22 v0) (h0 : DataW.Trod enc Try.prog W 0 (fun _ => true) true 22 v0 d0 p0)
    (_hsz : (DataW.weightsEach Try.prog [22] [d0]).all (· ≤ reachBytes) = true) :
    Calls Try.prog 7 #[v0] W fun e W' => e = .returned (.bool true) ∧ Below W.heap.size W W' := by
  obtain ⟨l, hl⟩ := open_bytes h0 (okWide_slice Try.underlying22 hv0)
  exact law v0 l W hl
end Go.Proofs.Ytoalihddfgehjaa.lawSumEnds
