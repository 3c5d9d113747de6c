/- Rows of operations; the cases of the laws opened. -/
--only r2
import Derived.Test.YtphnjiokihbhnaaTwo
import Derived.Test.YtphnjiokihbhnaaOpenI
namespace Go.Proofs.Ytphnjiokihbhnaa
set_option linter.unusedVariables false
set_option linter.unusedSimpArgs false
open Go.RowKit Go.ChangeShapes Go.WideShapes Go.Deep

/-- a slice of operations -/
def ROps (w : World) (v : Value) (xs : List POp) : Prop :=
  ∃ (a : Option Addr) (cap : Nat), v = .slice a xs.length cap ∧ xs.length ≤ cap ∧ cap ≤ maxLen ∧ (xs = [] ∨ ∃ b o, a = some ⟨b, o, none⟩ ∧ ∀ (i : Nat) (h : i < xs.length),
    w.cell? ⟨b, o + i * 6, none⟩ = some (.int .i64 xs[i].kind) ∧ w.cell? ⟨b, o + i * 6 + 1, none⟩ = some (.int .i64 xs[i].chip) ∧ w.cell? ⟨b, o + i * 6 + 2, none⟩ = some (.int .i64 xs[i].block) ∧ w.cell? ⟨b, o + i * 6 + 3, none⟩ = some (.int .i64 xs[i].page) ∧ w.cell? ⟨b, o + i * 6 + 4, none⟩ = some (u8v xs[i].data) ∧ w.cell? ⟨b, o + i * 6 + 5, none⟩ = some (.bool xs[i].short))
theorem ROps.below {w w' : World} {v : Value} {xs : List POp} (h : ROps w v xs) (hb : Below w.heap.size w w') : ROps w' v xs := by
  obtain ⟨a, cap, h1, h2, h3, h4⟩ := h
  refine ⟨a, cap, h1, h2, h3, h4.imp_right fun ⟨b, o, ha, hc⟩ => ⟨b, o, ha, fun i hi => ?_⟩⟩
  obtain ⟨c0, c1, c2, c3, c4, c5⟩ := hc i hi
  exact ⟨below_cell hb (cell_lt c0) c0, below_cell hb (cell_lt c1) c1, below_cell hb (cell_lt c2) c2, below_cell hb (cell_lt c3) c3, below_cell hb (cell_lt c4) c4, below_cell hb (cell_lt c5) c5⟩

set_option maxRecDepth 100000 in
theorem open_ops {H : Type} {enc : TypeId × Value → H} {W : World} {v : Value} {fuel : Nat} {x : DataW H × List MemPlace}
    (hf : DataW.trod enc Try.prog W 0 (fun _ => true) true fuel 36 [v] = some x) : ∃ xs : List POp, ROps W v xs ∧ ∀ x ∈ xs, x.Ok := by
  rcases open_slice_fields Try.underlying36 Try.underlying43 (by kernel_rfl) (by kernel_rfl) hf with ⟨hcs, _⟩ | ⟨x, len, cap, m, hcs, _, hl, hm, hmm, hfl⟩
  · simp only [List.cons.injEq, and_true] at hcs
    subst hcs
    exact ⟨[], ⟨none, 0, rfl, Nat.le_refl _, by simp [maxLen], .inl rfl⟩, fun x hx => by cases hx⟩
  · simp only [List.cons.injEq, and_true] at hcs
    subst hcs
    have hmc : m = cap := by simpa using hmm
    subst hmc
    obtain ⟨b, off, spot⟩ := x
    have hspot : 0 < len → spot = none := fun hp => by
      obtain ⟨ys, n, hj⟩ := hfl 0 (by omega)
      obtain ⟨v0, y0, e0, _, t0⟩ := hj 0 _ rfl
      simpa [Addr.add] using World.cell?_spot e0
    have hel : ∀ i, i < len → ∃ x : POp, x.Ok ∧ spot = none ∧ W.cell? ⟨b, off + i * 6, none⟩ = some (.int .i64 x.kind) ∧ W.cell? ⟨b, off + i * 6 + 1, none⟩ = some (.int .i64 x.chip) ∧ W.cell? ⟨b, off + i * 6 + 2, none⟩ = some (.int .i64 x.block) ∧ W.cell? ⟨b, off + i * 6 + 3, none⟩ = some (.int .i64 x.page) ∧ W.cell? ⟨b, off + i * 6 + 4, none⟩ = some (u8v x.data) ∧ W.cell? ⟨b, off + i * 6 + 5, none⟩ = some (.bool x.short) := by
      intro i hi
      obtain ⟨ys, n, hj⟩ := hfl i (by omega)
      obtain ⟨v0, y0, e0, _, t0⟩ := hj 0 _ rfl
      obtain ⟨v1, y1, e1, _, t1⟩ := hj 1 _ rfl
      obtain ⟨v2, y2, e2, _, t2⟩ := hj 2 _ rfl
      obtain ⟨v3, y3, e3, _, t3⟩ := hj 3 _ rfl
      obtain ⟨v4, y4, e4, _, t4⟩ := hj 4 _ rfl
      obtain ⟨v5, y5, e5, _, t5⟩ := hj 5 _ rfl
      obtain rfl := hspot (by omega)
      rw [add_plain] at e0 e1 e2 e3 e4 e5
      obtain ⟨z0, f0, _, w0⟩ := DataW.trod_int Try.underlying3 t0
      obtain ⟨z1, f1, _, w1⟩ := DataW.trod_int Try.underlying3 t1
      obtain ⟨z2, f2, _, w2⟩ := DataW.trod_int Try.underlying3 t2
      obtain ⟨z3, f3, _, w3⟩ := DataW.trod_int Try.underlying3 t3
      obtain ⟨z4, f4, _, w4⟩ := DataW.trod_int Try.underlying5 t4
      obtain ⟨z5, f5, _⟩ := DataW.trod_bool Try.underlying4 t5
      simp only [List.cons.injEq, and_true] at f0 f1 f2 f3 f4 f5
      subst f0 f1 f2 f3 f4 f5
      obtain ⟨d, rfl⟩ := u8_of_nat (lit_u8 w4).1 (lit_u8 w4).2
      exact ⟨⟨z0, z1, z2, z3, d, z5⟩, ⟨lit_i64 w0, lit_i64 w1, lit_i64 w2, lit_i64 w3⟩, rfl, e0, by rw [Nat.add_assoc]; exact e1, by rw [Nat.add_assoc]; exact e2, by rw [Nat.add_assoc]; exact e3, by rw [Nat.add_assoc]; exact e4, by rw [Nat.add_assoc]; exact e5⟩
    obtain ⟨xs, hlen, hxs⟩ := list_of _ len hel
    refine ⟨xs, ⟨some ⟨b, off, spot⟩, m, by rw [hlen], by omega, hm, ?_⟩, fun x hx => ?_⟩
    · by_cases h0 : xs = []
      · exact .inl h0
      · have hp : 0 < xs.length := by cases xs; exact absurd rfl h0; simp
        obtain ⟨_, hs, _⟩ := hxs 0 hp
        subst hs
        exact .inr ⟨b, off, rfl, fun i hi => (hxs i hi).2.2⟩
    · obtain ⟨i, hi, rfl⟩ := List.getElem_of_mem hx
      exact (hxs i hi).1

set_option maxRecDepth 100000 in
/-- what NandKeeps is given -/
theorem open_keeps {H : Type} {enc : TypeId × Value → H} {W : World} {v : Value} {d : DataW H} {p : List MemPlace} {base : Nat}
    (h : DataW.Trod enc Try.prog W 0 (fun _ => true) true 38 v d p) (hv : Value.okWide Try.prog W .any base 38 v) :
    ∃ (chip block : Int) (c : UInt8) (r : Value) (xs : List POp), v = .agg #[.int .i64 chip, .int .i64 block, u8v c, r] ∧ ROps W r xs ∧ ∀ x ∈ xs, x.Ok := by
  obtain ⟨cs, rfl, hs⟩ := okWide_struct Try.underlying38 hv
  obtain ⟨fuel, hf⟩ := h
  obtain ⟨ys, n, rfl, hy, hlen, hyl, hff⟩ := DataW.trod_struct Try.underlying38 hf
  have hsz : cs.size = 4 := hs.trans (by kernel_rfl)
  obtain ⟨cl⟩ := cs
  match cl, hsz with
  | [x0, x1, x2, x3], _ =>
    obtain ⟨y0, y1, y2, y3, rfl⟩ : ∃ y0 y1 y2 y3, ys = [y0, y1, y2, y3] := by
      match ys, hyl with
      | [y0, y1, y2, y3], _ => exact ⟨y0, y1, y2, y3, rfl⟩
    have t0 : DataW.trod enc Try.prog W 0 (fun _ => true) true n 3 (List.take (Try.prog.cellsOf 3) [x0, x1, x2, x3]) = some y0 := hff 0 _ rfl
    have t1 : DataW.trod enc Try.prog W 0 (fun _ => true) true n 3 (List.take (Try.prog.cellsOf 3) [x1, x2, x3]) = some y1 := hff 1 _ rfl
    have t2 : DataW.trod enc Try.prog W 0 (fun _ => true) true n 5 (List.take (Try.prog.cellsOf 5) [x2, x3]) = some y2 := hff 2 _ rfl
    have t3 : DataW.trod enc Try.prog W 0 (fun _ => true) true n 36 (List.take (Try.prog.cellsOf 36) [x3]) = some y3 := hff 3 _ rfl
    rw [show Try.prog.cellsOf 3 = 1 by kernel_rfl] at t0 t1
    rw [show Try.prog.cellsOf 5 = 1 by kernel_rfl] at t2
    rw [show Try.prog.cellsOf 36 = 1 by kernel_rfl] at t3
    obtain ⟨z0, f0, _, w0⟩ := DataW.trod_int Try.underlying3 t0
    obtain ⟨z1, f1, _, w1⟩ := DataW.trod_int Try.underlying3 t1
    obtain ⟨z2, f2, _, w2⟩ := DataW.trod_int Try.underlying5 t2
    obtain ⟨xs, h1, h2⟩ := open_ops t3
    simp only [List.take, List.cons.injEq, and_true] at f0 f1 f2
    subst f0 f1 f2
    obtain ⟨c, rfl⟩ := u8_of_nat (lit_u8 w2).1 (lit_u8 w2).2
    exact ⟨z0, z1, c, x3, xs, rfl, h1, h2⟩
end Go.Proofs.Ytphnjiokihbhnaa
