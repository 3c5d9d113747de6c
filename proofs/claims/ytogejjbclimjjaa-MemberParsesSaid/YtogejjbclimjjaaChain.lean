/- A chain of a writer's methods in one region, whose arguments' rows may be made at any time. -/
--only r2
import Derived.Test.YtogejjbclimjjaaWriter
import Derived.Test.YtogejjbclimjjaaBorn
namespace Go.Proofs.Ytogejjbclimjjaa
set_option linter.unusedVariables false
set_option linter.unusedSimpArgs false
open Go.RowKit

/-- a writer in the middle of its chain -/
def WA (K : List (Nat × Obj)) (p base : Nat) (l : List UInt8) (B0 : Nat) (w0 : World) : Asn := fun G w => Held K w ∧ ∃ v, Wr w p base v l ∧ G = (fun b => b = p ∨ v.ownBlock = some b) ∧ Below B0 w0 w
theorem WA.good {K : List (Nat × Obj)} {p base B0 : Nat} {l : List UInt8} {w0 : World} (hB : B0 ≤ p) : Good (Held K) (WA K p base l B0 w0) := by
  refine ⟨fun G w o h => ?_, fun G w h => h.1, fun G w b h hb => ?_⟩
  · obtain ⟨h1, v, h2, h3, h4⟩ := h
    have hb := (Below.refl w.heap.size w).alloc (Nat.le_refl _) o
    exact ⟨h1.below hb, v, h2.below hb, h3, h4.trans (hb.mono (by have := h2.le; have := h2.lt; omega))⟩
  · obtain ⟨h1, v, h2, rfl, h4⟩ := h
    rcases hb with rfl | hb
    · exact heap_lt h2.cell
    · exact (h2.own.lt b hb).2
theorem WA.next {K : List (Nat × Obj)} {p base B0 : Nat} {l l' : List UInt8} {v v' : Value} {w0 w w' : World} (hB : B0 ≤ p) (hK : ∀ x ∈ K, x.1 < base ∧ x.1 ≠ p) (hH : Held K w) (hW : Wr w p base v l) (hbel : Below B0 w0 w) (hW' : Wr w' p base v' l') (hg : Grow p v v' w w') :
    WA K p base l' B0 w0 (fun b => b = p ∨ v'.ownBlock = some b) w' := by
  have hO := hg.keeps hW
  refine ⟨hH.only hO fun x hx h => ?_, v', hW', rfl, hbel.trans (hO.below (by have := hW.le; have := hW.lt; omega) fun b hb h => ?_)⟩
  · have := hK x hx
    rcases h with h | h <;> omega
  · have := hW.lt
    rcases h with h | h <;> omega
theorem WA.row {p : Nat} {v v' : Value} {w w' : World} (hg : Grow p v v' w w') : ∀ b, (b = p ∨ v'.ownBlock = some b) → (b = p ∨ v.ownBlock = some b) ∨ w.heap.size ≤ b := fun b h => by
  rcases h with h | h
  · exact .inl (.inl h)
  · exact (hg.row b h).imp_left .inr
theorem WA.apart {p b n c : Nat} {v : Value} (h : ¬ (b = p ∨ v.ownBlock = some b)) : ApartW (.slice (some ⟨b, 0, none⟩) n c) p v := fun b' o n' c' e => by
  simp only [Value.slice.injEq, Option.some.injEq, Addr.mk.injEq] at e
  obtain ⟨⟨rfl, _⟩, _⟩ := e
  exact ⟨fun h' => h (.inl h'), fun h' => h (.inr h')⟩
/-- the end of a chain: nothing more is turned -/
def FinA (K : List (Nat × Obj)) (R : World → Prop) : Asn := fun G w => Held K w ∧ (∀ b, ¬ G b) ∧ R w
theorem FinA.good {K : List (Nat × Obj)} {R : World → Prop} (h : ∀ w o, R w → R (w.alloc o)) : Good (Held K) (FinA K R) :=
  ⟨fun G w o hA => ⟨hA.1.below ((Below.refl w.heap.size w).alloc (Nat.le_refl _) o), hA.2.1, h w o hA.2.2⟩, fun G w hA => hA.1, fun G w b hA hb => absurd hb (hA.2.1 b)⟩
/-- the bytes of a chain, as a row of the call's own -/
def Laid (B0 : Nat) (x : Value) (l : List UInt8) (w0 w : World) : Prop := w.ownsRow B0 5 1 x l.length (l.map u8v) ∧ Below B0 w0 w ∧ B0 ≤ w.heap.size
theorem Laid.alloc {B0 : Nat} {x : Value} {l : List UInt8} {w0 : World} : ∀ w o, Laid B0 x l w0 w → Laid B0 x l w0 (w.alloc o) := fun w o h => ⟨h.1.alloc o, h.2.1.alloc h.2.2 o, by simp; have := h.2.2; omega⟩
end Go.Proofs.Ytogejjbclimjjaa
