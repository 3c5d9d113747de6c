/- gabionlaw02.known: the small example answers true. And how a slice of bytes that comes in reads. -/
import Derived.Test.YtoalihddfgehjaaSum
import Derived.Test.YtoalihddfgehjaaR1
import Derived.Test.YtoalihddfgehjaaCrcBits
import Derived.ProofKit
import Derived.ChangeSlices
namespace Go.Proofs.Ytoalihddfgehjaa
set_option linter.unusedVariables false
set_option linter.unusedSimpArgs false
open Go.RowKit Go.ChangeShapes Go.WideShapes

/-- a slice of bytes that came in -/
theorem open_bytes {H : Type} {enc : TypeId × Value → H} {W : World} {v : Value} {d : DataW H} {p : List MemPlace}
    (h : DataW.Trod enc Try.prog W 0 (fun _ => true) true 22 v d p) (hv : ∃ a n c, v = .slice a n c) : ∃ l : List UInt8, RB W v l := by
  obtain ⟨fuel, hf⟩ := h
  obtain ⟨a0, n0, c0, rfl⟩ := hv
  rcases open_ints Try.underlying22 Try.underlying5 (by kernel_rfl) hf with ⟨hcs, _⟩ | ⟨x, len, cap, zs, hcs, _, hl, hm, hz, _, hcell, hwz⟩
  · simp [Value.cells] at hcs
    obtain ⟨rfl, rfl, rfl⟩ := hcs
    exact ⟨[], RB.nil W⟩
  · simp [Value.cells] at hcs
    obtain ⟨rfl, rfl, rfl⟩ := hcs
    obtain ⟨l, rfl⟩ := bytes_of_ints hwz
    have hlc : l.length = c0 := by simpa using hz
    refine ⟨l.take n0, some x, c0, by simp; omega, by simp; omega, hm, fun h => (by cases h), ?_⟩
    by_cases h0 : n0 = 0
    · left; subst h0; simp
    · right
      obtain ⟨b, off, spot⟩ := x
      have hc := hcell 0 (by simp; omega)
      have hspot : spot = none := by simpa [Addr.add] using World.cell?_spot hc
      subst hspot
      refine ⟨b, off, rfl, fun i hi => ?_⟩
      have hi' : i < l.length := by simp at hi; omega
      have := hcell i (by simpa using hi')
      rw [add_plain] at this
      rw [this]
      simp [List.getD, hi', u8v]

def nine : List UInt8 := [49, 50, 51, 52, 53, 54, 55, 56, 57]

set_option maxHeartbeats 1000000 in
theorem known_calls (w : World) : Calls Try.prog 19 #[] w fun e w' => e = .returned (.bool true) ∧ Below w.heap.size w w' := by
  have hk := fun (w : World) (C : Array Value) (n c : Nat) => Lib.run_convert_bytes_const (P := Try.prog) w 22 5 C n c Try.underlying22 Try.underlying5
  go_enter Try.func19, Try.ntmps19
  go_wp2_with fail
  refine (sum_of _ [nine] _ ?_).mono ?_
  · exact RBB.one (heap_is (by simp)) (Nat.le_refl _) (by unfold maxLen; omega) (RB.block (n := 9) (cap := 9) (l := nine) (heap_old _ (heap_new _ _)) rfl (Nat.le_refl _) (by unfold maxLen; omega))
  rintro e w1 ⟨rfl, rfl⟩
  have hs : (((crcOf [nine].flatten).toNat : Int) == 3808858755) = true := by decide +kernel
  generalize crcOf [nine].flatten = x at hs ⊢
  go_wp2_with fail
  refine (sum_of _ [] _ (RBB.nil _)).mono ?_
  rintro e w1 ⟨rfl, rfl⟩
  have hs0 : (((crcOf ([] : List (List UInt8)).flatten).toNat : Int) == 0) = true := by decide +kernel
  generalize crcOf ([] : List (List UInt8)).flatten = y at hs0 ⊢
  go_wp2_with fail
  go_ret
  exact ⟨rfl, by go_grown⟩
end Go.Proofs.Ytoalihddfgehjaa
