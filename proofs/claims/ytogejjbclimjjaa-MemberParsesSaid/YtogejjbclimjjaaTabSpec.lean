/- Tables, plainly: what is one, its bytes; and where they lie in memory. -/
--only r2
import Derived.Test.YtogejjbclimjjaaCellRow
import Derived.Test.YtogejjbclimjjaaWriter
import Derived.Test.YtogejjbclimjjaaGeo2
namespace Go.Proofs.Ytogejjbclimjjaa
set_option linter.unusedVariables false
set_option linter.unusedSimpArgs false
open Go.RowKit

structure Tb where
  seq : Nat
  place : List Int
  spare : List Int
  t0 : Int
  t1 : Int
def Tb.tabs (T : Tb) : List Int := [T.t0, T.t1]
def Tb.all (T : Tb) : List Int := T.place ++ (T.spare ++ T.tabs)
def inN (n : Nat) (l : List Int) : Prop := ∀ x ∈ l, 0 ≤ x ∧ x < n
/-- is it one, of so many blocks? -/
def Tb.Ok (n : Nat) (T : Tb) : Prop := T.place.length + 5 = n ∧ inN n T.all ∧ T.all.Nodup
open Classical in
/-- the error's number -/
noncomputable def Tb.err (n : Nat) (T : Tb) : Nat := if T.Ok n then 0 else 62
def Tb.cells (T : Tb) (vp vs : Value) : Array Value := #[.int .u32 T.seq, vp, vs, .int .i64 T.t0, .int .i64 T.t1]
def tabV (T : Tb) (vp vs : Value) : Value := .agg (T.cells vp vs)
structure TabAt (w : World) (T : Tb) (vp vs : Value) : Prop where
  p : RI w vp T.place
  s : RI w vs T.spare
  seq : T.seq < 4294967296
theorem TabAt.below {w w' : World} {T : Tb} {vp vs : Value} (h : TabAt w T vp vs) (hb : Below w.heap.size w w') : TabAt w' T vp vs := ⟨h.p.below hb, h.s.below hb, h.seq⟩

/-- a number, in a slice of numbers -/
theorem RI.at {w : World} {v : Value} {l : List Int} (h : RI w v l) {i : Nat} (hi : i < l.length) : ∃ b o cap, v = .slice (some ⟨b, o, none⟩) l.length cap ∧ w.cell? ⟨b, o + i, none⟩ = some (.int .i64 l[i]) := by
  obtain ⟨b, o, cap, e, -, -, hc⟩ := h.out (by omega)
  exact ⟨b, o, cap, e, hc i hi⟩
/-- numbers that are tried so far -/
structure Tried (n : Nat) (l : List Int) : Prop where
  lo : inN n l
  nd : l.Nodup
theorem Tried.nil (n : Nat) : Tried n [] := ⟨(fun x hx => by cases hx), List.nodup_nil⟩
theorem Tried.snoc {n : Nat} {l : List Int} {x : Int} (h : Tried n l) (h0 : 0 ≤ x) (h1 : x < n) (hx : x ∉ l) : Tried n (l ++ [x]) :=
  ⟨fun y hy => (List.mem_append.mp hy).elim (h.lo y) fun e => by rw [List.mem_singleton.mp e]; exact ⟨h0, h1⟩, by
    rw [List.nodup_append]
    exact ⟨h.nd, by simp, fun a ha b hb e => by rw [List.mem_singleton.mp hb] at e; subst e; exact hx ha⟩⟩
/-- a list that goes on with a number that was there, or is none, isn't right -/
theorem not_tried {n : Nat} {l r : List Int} {x : Int} (h : x < 0 ∨ (n : Int) ≤ x ∨ x ∈ l) : ¬ Tried n (l ++ x :: r) := fun ht => by
  have h1 := ht.lo x (by simp)
  rcases h with h | h | h
  · omega
  · omega
  · have := (List.nodup_append.mp ht.nd).2.2 x h x (by simp)
    exact this rfl
theorem Tb.ok_iff (n : Nat) (T : Tb) : T.Ok n ↔ T.place.length + 5 = n ∧ Tried n T.all := ⟨fun h => ⟨h.1, h.2.1, h.2.2⟩, fun h => ⟨h.1, h.2.lo, h.2.nd⟩⟩

/-- a list's bytes -/
def listB (l : List Int) : List UInt8 := leAll 1 [l.length] ++ leAll 1 (l.map Int.toNat)
def encB (T : Tb) : List UInt8 := leAll 4 [T.seq] ++ listB T.place ++ listB T.spare ++ leAll 1 [T.t0.toNat, T.t1.toNat]
end Go.Proofs.Ytogejjbclimjjaa
