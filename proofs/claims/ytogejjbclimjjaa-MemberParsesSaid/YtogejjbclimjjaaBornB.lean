/- A drawn region with births, while nothing that was is changed. -/
--only r2
import Derived.Test.YtogejjbclimjjaaChain
namespace Go.Proofs.Ytogejjbclimjjaa
set_option linter.unusedVariables false
set_option linter.unusedSimpArgs false
open Go.RowKit
/-- what was stays; what is born is new -/
def BelA (w0 : World) (R : World → Prop) : Asn := fun G w => Below w0.heap.size w0 w ∧ G = (fun b => b < w0.heap.size) ∧ R w
theorem BelA.good {w0 : World} {R : World → Prop} (h : ∀ w o, R w → R (w.alloc o)) : Good (fun w => Below w0.heap.size w0 w) (BelA w0 R) := by
  refine ⟨fun G w o hA => ⟨hA.1.alloc hA.1.size o, hA.2.1, h w o hA.2.2⟩, fun G w hA => hA.1, fun G w b hA hb => ?_⟩
  have h1 := hA.2.1
  have h2 := hA.1.size
  subst h1
  have : b < w0.heap.size := hb
  omega
/-- .. and none is to be taken any more -/
def EndA (w0 : World) (R : World → Prop) : Asn := fun G w => Below w0.heap.size w0 w ∧ (∀ b, ¬ G b) ∧ R w
theorem EndA.good {w0 : World} {R : World → Prop} (h : ∀ w o, R w → R (w.alloc o)) : Good (fun w => Below w0.heap.size w0 w) (EndA w0 R) :=
  ⟨fun G w o hA => ⟨hA.1.alloc hA.1.size o, hA.2.1, h w o hA.2.2⟩, fun G w hA => hA.1, fun G w b hA hb => absurd hb (hA.2.1 b)⟩
/-- .. and what is born lies beside some new blocks, too -/
def BelG (w0 : World) (S : Nat → Prop) (R : World → Prop) : Asn := fun G w => Below w0.heap.size w0 w ∧ G = (fun b => b < w0.heap.size ∨ S b) ∧ (∀ b, S b → b < w.heap.size) ∧ R w
theorem BelG.good {w0 : World} {S : Nat → Prop} {R : World → Prop} (h : ∀ w o, R w → R (w.alloc o)) : Good (fun w => Below w0.heap.size w0 w) (BelG w0 S R) := by
  refine ⟨fun G w o hA => ⟨hA.1.alloc hA.1.size o, hA.2.1, fun b hb => by have := hA.2.2.1 b hb; simp; omega, h w o hA.2.2.2⟩, fun G w hA => hA.1, fun G w b hA hb => ?_⟩
  have h1 := hA.2.1
  have h2 := hA.1.size
  subst h1
  rcases hb with hb | hb
  · have : b < w0.heap.size := hb
    omega
  · exact hA.2.2.1 b hb
end Go.Proofs.Ytogejjbclimjjaa
