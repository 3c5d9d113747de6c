/- Sets of members: what they are. -/
--only r2
import Derived.Test.YtogejjbclimjjaaTabSpec
namespace Go.Proofs.Ytogejjbclimjjaa
set_option linter.unusedVariables false
set_option linter.unusedSimpArgs false
open Go.RowKit

structure Ms where
  seq : Nat
  chips : List Int
  spare : Int
  dead : Int
  done : Int
def Ms.cells (S : Ms) (v : Value) : Array Value := #[.int .u32 S.seq, v, .int .i64 S.spare, .int .i64 S.dead, .int .i64 S.done]
def Ms.val (S : Ms) (v : Value) : Value := .agg (S.cells v)
structure MsAt (w : World) (S : Ms) (v : Value) : Prop where
  c : RI w v S.chips
  seq : S.seq < 4294967296
theorem MsAt.below {w w' : World} {S : Ms} {v : Value} (h : MsAt w S v) (hb : Below w.heap.size w w') : MsAt w' S v := ⟨h.c.below hb, h.seq⟩
/-- the members, and who is in reserve -/
def Ms.list (S : Ms) : List Int := if S.spare = 255 then S.chips else S.chips ++ [S.spare]
def GoodL (n : Nat) (L : List Int) : Prop := ∀ (j : Nat) (h : j < L.length), 0 ≤ L[j] ∧ L[j] ≤ (n : Int) ∧ L[j] ∉ L.take j
def Ms.bad (n b : Nat) (S : Ms) : Prop := (S.chips.length : Int) ≠ (n : Int) ∨ (S.dead ≠ 255 ∧ (S.dead < 0 ∨ (n : Int) ≤ S.dead)) ∨ S.done < 0 ∨ (b : Int) - 5 < S.done ∨ (0 < S.done ∧ (S.dead = 255 ∨ S.spare = 255))
instance (n b : Nat) (S : Ms) : Decidable (S.bad n b) := by unfold Ms.bad; infer_instance
/-- is it one, of a shape? -/
def Ms.Ok (n b : Nat) (S : Ms) : Prop := ¬ S.bad n b ∧ GoodL n S.list
open Classical in
noncomputable def Ms.err (n b : Nat) (S : Ms) : Nat := if S.Ok n b then 0 else 62

/-- which chips are seen -/
def seenRow (n : Nat) (S : List Int) : List Value := (List.range (n + 1)).map fun (j : Nat) => i64v (if (j : Int) ∈ S then 1 else 0)
theorem seen_zero (n : Nat) : List.replicate (n + 1) (Value.int .i64 0) = seenRow n [] := by
  apply List.ext_getElem
  · simp [seenRow]
  · intro i h1 h2; simp [seenRow]
theorem seen_get (n : Nat) (S : List Int) (j : Nat) (h : j ≤ n) : (seenRow n S)[j]? = some (i64v (if (j : Int) ∈ S then 1 else 0)) := by simp [seenRow, show j < n + 1 by omega]
theorem seen_set (n : Nat) (S : List Int) (j : Nat) (h : j ≤ n) : (seenRow n S).set j (i64v 1) = seenRow n (S ++ [(j : Int)]) := by
  apply List.ext_getElem
  · simp [seenRow]
  · intro i h1 h2
    rw [List.getElem_set]
    simp only [seenRow, List.getElem_map, List.getElem_range]
    by_cases e : j = i
    · subst e; simp
    · rw [if_neg e]
      congr 2
      simp only [List.mem_append, List.mem_singleton, eq_iff_iff]
      constructor
      · exact .inl
      · rintro (h | h)
        · exact h
        · exact absurd (by omega) e
end Go.Proofs.Ytogejjbclimjjaa
