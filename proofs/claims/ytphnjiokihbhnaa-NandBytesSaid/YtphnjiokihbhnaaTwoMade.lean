/- Chips and the reference's chips, just made. -/
--only r2
import Derived.Test.YtphnjiokihbhnaaTwo
import Derived.Test.YtphnjiokihbhnaaRefNew
import Derived.Test.YtphnjiokihbhnaaNandLaw
namespace Go.Proofs.Ytphnjiokihbhnaa
set_option linter.unusedVariables false
set_option linter.unusedSimpArgs false
open Go.RowKit

/-- only the block of the events is tagged as theirs -/
theorem NdAt.retag {pr : Bool} {w : World} {L : NdLay} {M : Nd} (h : NdAt pr w L M) : ∃ L', L'.p = L.p ∧ L'.ea = L.ea ∧ (∀ x, L'.S x → L.S x) ∧ (∀ x, L'.tag x = .evs → M.evs ≠ [] ∧ L.ea.map (·.block) = some x) ∧ (∀ x, L'.tag x ≠ .none → L.tag x ≠ .none) ∧ (∀ x, L'.tag x ≠ .none → L'.tag x ≠ .evs → L.tag x ≠ .evs) ∧ NdAt pr w L' M := by
  classical
  let tg : Nat → Tag := fun x => if L.tag x = .evs ∧ ¬ (M.evs ≠ [] ∧ L.ea.map (·.block) = some x) then .none else L.tag x
  have h1 : ∀ x t, L.tag x = t → t ≠ .evs → tg x = t := fun x t e ht => by
    show (if L.tag x = .evs ∧ ¬ (M.evs ≠ [] ∧ L.ea.map (·.block) = some x) then Tag.none else L.tag x) = t
    rw [if_neg (fun hh => ht (e ▸ hh.1)), e]
  have h2 : ∀ x, tg x ≠ .none → tg x = L.tag x ∧ (L.tag x = .evs → M.evs ≠ [] ∧ L.ea.map (·.block) = some x) := fun x hx => by
    have hx : (if L.tag x = .evs ∧ ¬ (M.evs ≠ [] ∧ L.ea.map (·.block) = some x) then Tag.none else L.tag x) ≠ .none := hx
    show (if L.tag x = .evs ∧ ¬ (M.evs ≠ [] ∧ L.ea.map (·.block) = some x) then Tag.none else L.tag x) = L.tag x ∧ _
    by_cases e : L.tag x = .evs ∧ ¬ (M.evs ≠ [] ∧ L.ea.map (·.block) = some x)
    · rw [if_pos e] at hx; exact absurd rfl hx
    · rw [if_neg e]; exact ⟨rfl, fun e1 => Classical.byContradiction fun e2 => e ⟨e1, e2⟩⟩
  have hS : ∀ x, (tg x).mut = true → (L.tag x).mut = true := fun x hx => by
    have := (h2 x (fun e => by rw [e] at hx; cases hx)).1
    rwa [this] at hx
  refine ⟨{ L with tag := tg }, rfl, rfl, hS, fun x hx => ?_, fun x hx => ?_, fun x hx hx2 => ?_, h.ok, h.top, h.chips, h.dead, h.blk, h.pgs, h.pg, ?_, h.caps, h1 _ _ h.tp (by simp), h1 _ _ h.td (by simp), h1 _ _ h.tc (by simp), fun c hc => h1 _ _ (h.tb c hc) (by simp), fun c b hc hb => h1 _ _ (h.tg c b hc hb) (by simp), fun x hx => h.only x (hS x hx), fun x hx => h.lt x ?_⟩
  · have hx : tg x = .evs := hx
    have := h2 x (by rw [hx]; simp)
    exact this.2 (by rw [← this.1]; exact hx)
  · have hx : tg x ≠ .none := hx
    rw [← (h2 x hx).1]; exact hx
  · have hx : tg x ≠ .none := hx
    rw [← (h2 x hx).1]; exact hx2
  · have he := h.evs
    by_cases h0 : M.evs = []
    · obtain ⟨e1, e2, e3, -⟩ := he
      exact ⟨e1, e2, e3, .inl h0⟩
    · obtain ⟨e1, e2, e3, e4⟩ := he
      refine ⟨e1, e2, e3, e4.imp_right fun ⟨b, o, ha, hs, hc⟩ => ⟨b, o, ha, ?_, hc⟩⟩
      show (if L.tag b = .evs ∧ ¬ (M.evs ≠ [] ∧ L.ea.map (·.block) = some b) then Tag.none else L.tag b) = .evs
      rw [if_neg (fun hh => hh.2 ⟨h0, by rw [ha]; rfl⟩)]; exact hs
  · have hx : tg x ≠ .none := hx
    rw [← (h2 x hx).1]; exact hx

theorem two_made {z : Nat} {w0 w1 w2 : World} {La Lm : NdLay} {A B : Nd} (ha : NdAt true w1 La A) (hla : ∀ x, La.tag x ≠ .none → w0.heap.size ≤ x) (hm : NdAt false w2 Lm B) (hlm : ∀ x, Lm.tag x ≠ .none → Lm.tag x ≠ .evs → w1.heap.size ≤ x)
    (hb : Below w1.heap.size w1 w2) (hE : ∀ x, B.evs ≠ [] → Lm.ea.map (·.block) = some x → x < w0.heap.size) (hz : z ≤ w0.heap.size) (hs : w0.heap.size ≤ w1.heap.size) : ∃ Lm', Lm'.p = Lm.p ∧ Two z w2 La Lm' A B := by
  obtain ⟨Lm', h1, -, h3, h4, h5, h6, h7⟩ := hm.retag
  refine ⟨Lm', h1, ha.below hb, h7, fun x hx => ?_, fun x hx => ?_, fun x hx => ?_, ?_⟩
  · by_cases e : Lm'.tag x = .none
    · exact e
    · by_cases e2 : Lm'.tag x = .evs
      · obtain ⟨e3, e4⟩ := h4 x e2
        have := hE x e3 e4
        have := hla x (NdLay.S_ne hx)
        omega
      · have := hlm x (h5 x e) (h6 x e e2)
        have := ha.lt x (NdLay.S_ne hx)
        omega
  · have e2 : Lm'.tag x ≠ .evs := fun e => by
      have hx : (Lm'.tag x).mut = true := hx
      rw [e] at hx; cases hx
    have := hlm x (h5 x (NdLay.S_ne hx)) (h6 x (NdLay.S_ne hx) e2)
    by_cases e : La.tag x = .none
    · exact e
    · have := ha.lt x e; omega
  · rcases hx with hx | hx
    · exact Nat.le_trans hz (hla x (NdLay.S_ne hx))
    · have e2 : Lm'.tag x ≠ .evs := fun e => by
        have hx : (Lm'.tag x).mut = true := hx
        rw [e] at hx; cases hx
      have := hlm x (h5 x (NdLay.S_ne hx)) (h6 x (NdLay.S_ne hx) e2)
      omega
  · have := hb.size; omega
end Go.Proofs.Ytphnjiokihbhnaa
