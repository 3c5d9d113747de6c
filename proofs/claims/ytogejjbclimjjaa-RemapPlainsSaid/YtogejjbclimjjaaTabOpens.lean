/- What the laws of tables are given, opened. -/
--only r2
import Derived.Test.YtogejjbclimjjaaTabSpec
import Derived.Test.YtogejjbclimjjaaOpenI
import Derived.OpenShut
namespace Go.Proofs.Ytogejjbclimjjaa
set_option linter.unusedVariables false
set_option linter.unusedSimpArgs false
open Go.RowKit Go.ChangeShapes Go.WideShapes Go.Deep

set_option maxRecDepth 100000 in
theorem open_many {H : Type} {enc : TypeId × Value → H} {W : World} {v : Value} {d : DataW H} {p : List MemPlace} {base : Nat}
    (h : DataW.Trod enc Try.prog W 0 (fun _ => true) true 87 v d p) (hv : Value.okWide Try.prog W .any base 87 v) :
    ∃ (blocks turn spare : Int) (r : Value) (xs : List Int), v = .agg #[.int .i64 blocks, .int .i64 turn, .int .i64 spare, r] ∧ RI W r xs := by
  obtain ⟨cs, rfl, hs⟩ := okWide_struct Try.underlying87 hv
  obtain ⟨fuel, hf⟩ := h
  obtain ⟨ys, n, rfl, hy, hlen, hyl, hff⟩ := DataW.trod_struct Try.underlying87 hf
  have hsz : cs.size = 4 := hs.trans (by kernel_rfl)
  obtain ⟨cl⟩ := cs
  match cl, hsz with
  | [x0, x1, x2, x3], _ =>
    obtain ⟨y0, y1, y2, y3, rfl⟩ : ∃ y0 y1 y2 y3, ys = [y0, y1, y2, y3] := by
      match ys, hyl with
      | [y0, y1, y2, y3], _ => exact ⟨y0, y1, y2, y3, rfl⟩
    have t0 : DataW.trod enc Try.prog W 0 (fun _ => true) true n 3 (List.take (Try.prog.cellsOf 3) [x0, x1, x2, x3]) = some y0 := hff 0 _ rfl
    have t1 : DataW.trod enc Try.prog W 0 (fun _ => true) true n 3 (List.take (Try.prog.cellsOf 3) [x1, x2, x3]) = some y1 := hff 1 _ rfl
    have t2 : DataW.trod enc Try.prog W 0 (fun _ => true) true n 3 (List.take (Try.prog.cellsOf 3) [x2, x3]) = some y2 := hff 2 _ rfl
    have t3 : DataW.trod enc Try.prog W 0 (fun _ => true) true n 22 (List.take (Try.prog.cellsOf 22) [x3]) = some y3 := hff 3 _ rfl
    rw [show Try.prog.cellsOf 3 = 1 by kernel_rfl] at t0 t1 t2
    rw [show Try.prog.cellsOf 22 = 1 by kernel_rfl] at t3
    obtain ⟨z0, f0, _, w0⟩ := DataW.trod_int Try.underlying3 t0
    obtain ⟨z1, f1, _, w1⟩ := DataW.trod_int Try.underlying3 t1
    obtain ⟨z2, f2, _, w2⟩ := DataW.trod_int Try.underlying3 t2
    obtain ⟨xs, h1⟩ := open_ri t3
    simp only [List.take, List.cons.injEq, and_true] at f0 f1 f2
    subst f0 f1 f2
    exact ⟨z0, z1, z2, x3, xs, rfl, h1⟩

set_option maxRecDepth 100000 in
theorem open_rplains {H : Type} {enc : TypeId × Value → H} {W : World} {v : Value} {d : DataW H} {p : List MemPlace} {base : Nat}
    (h : DataW.Trod enc Try.prog W 0 (fun _ => true) true 68 v d p) (hv : Value.okWide Try.prog W .any base 68 v) :
    ∃ (blocks turn spare : Int) (seq : Nat), v = .agg #[.int .i64 blocks, .int .i64 turn, .int .i64 spare, .int .u32 seq] ∧ seq < 4294967296 := by
  obtain ⟨cs, rfl, hs⟩ := okWide_struct Try.underlying68 hv
  obtain ⟨fuel, hf⟩ := h
  obtain ⟨ys, n, rfl, hy, hlen, hyl, hff⟩ := DataW.trod_struct Try.underlying68 hf
  have hsz : cs.size = 4 := hs.trans (by kernel_rfl)
  obtain ⟨cl⟩ := cs
  match cl, hsz with
  | [x0, x1, x2, x3], _ =>
    obtain ⟨y0, y1, y2, y3, rfl⟩ : ∃ y0 y1 y2 y3, ys = [y0, y1, y2, y3] := by
      match ys, hyl with
      | [y0, y1, y2, y3], _ => exact ⟨y0, y1, y2, y3, rfl⟩
    have t0 : DataW.trod enc Try.prog W 0 (fun _ => true) true n 3 (List.take (Try.prog.cellsOf 3) [x0, x1, x2, x3]) = some y0 := hff 0 _ rfl
    have t1 : DataW.trod enc Try.prog W 0 (fun _ => true) true n 3 (List.take (Try.prog.cellsOf 3) [x1, x2, x3]) = some y1 := hff 1 _ rfl
    have t2 : DataW.trod enc Try.prog W 0 (fun _ => true) true n 3 (List.take (Try.prog.cellsOf 3) [x2, x3]) = some y2 := hff 2 _ rfl
    have t3 : DataW.trod enc Try.prog W 0 (fun _ => true) true n 35 (List.take (Try.prog.cellsOf 35) [x3]) = some y3 := hff 3 _ rfl
    rw [show Try.prog.cellsOf 3 = 1 by kernel_rfl] at t0 t1 t2
    rw [show Try.prog.cellsOf 35 = 1 by kernel_rfl] at t3
    obtain ⟨z0, f0, _, w0⟩ := DataW.trod_int Try.underlying3 t0
    obtain ⟨z1, f1, _, w1⟩ := DataW.trod_int Try.underlying3 t1
    obtain ⟨z2, f2, _, w2⟩ := DataW.trod_int Try.underlying3 t2
    obtain ⟨z3, f3, _, w3⟩ := DataW.trod_int Try.underlying35 t3
    simp only [List.take, List.cons.injEq, and_true] at f0 f1 f2 f3
    subst f0 f1 f2 f3
    have := lit_u32 w3
    exact ⟨z0, z1, z2, z3.toNat, by rw [Int.toNat_of_nonneg this.1], by omega⟩

set_option maxRecDepth 100000 in
theorem open_table {H : Type} {enc : TypeId × Value → H} {W : World} {v : Value} {d : DataW H} {p : List MemPlace} {base : Nat}
    (h : DataW.Trod enc Try.prog W 0 (fun _ => true) true 57 v d p) (hv : Value.okWide Try.prog W .any base 57 v) :
    ∃ (T : Tb) (vp vs : Value), v = tabV T vp vs ∧ TabAt W T vp vs := by
  obtain ⟨cs, rfl, hs⟩ := okWide_struct Try.underlying57 hv
  obtain ⟨fuel, hf⟩ := h
  obtain ⟨ys, n, rfl, hy, hlen, hyl, hff⟩ := DataW.trod_struct Try.underlying57 hf
  have hsz : cs.size = 5 := hs.trans (by kernel_rfl)
  obtain ⟨cl⟩ := cs
  match cl, hsz with
  | [x0, x1, x2, x3, x4], _ =>
    obtain ⟨y0, y1, y2, y3, rfl⟩ : ∃ y0 y1 y2 y3, ys = [y0, y1, y2, y3] := by
      match ys, hyl with
      | [y0, y1, y2, y3], _ => exact ⟨y0, y1, y2, y3, rfl⟩
    have t0 : DataW.trod enc Try.prog W 0 (fun _ => true) true n 35 (List.take (Try.prog.cellsOf 35) [x0, x1, x2, x3, x4]) = some y0 := hff 0 _ rfl
    have t1 : DataW.trod enc Try.prog W 0 (fun _ => true) true n 22 (List.take (Try.prog.cellsOf 22) [x1, x2, x3, x4]) = some y1 := hff 1 _ rfl
    have t2 : DataW.trod enc Try.prog W 0 (fun _ => true) true n 22 (List.take (Try.prog.cellsOf 22) [x2, x3, x4]) = some y2 := hff 2 _ rfl
    have t3 : DataW.trod enc Try.prog W 0 (fun _ => true) true n 55 (List.take (Try.prog.cellsOf 55) [x3, x4]) = some y3 := hff 3 _ rfl
    rw [show Try.prog.cellsOf 35 = 1 by kernel_rfl] at t0
    rw [show Try.prog.cellsOf 22 = 1 by kernel_rfl] at t1 t2
    rw [show Try.prog.cellsOf 55 = 2 by kernel_rfl] at t3
    simp only [List.take] at t0 t1 t2 t3
    obtain ⟨z0, f0, _, w0⟩ := DataW.trod_int Try.underlying35 t0
    obtain ⟨pl, h1⟩ := open_ri t1
    obtain ⟨sp, h2⟩ := open_ri t2
    obtain ⟨us, k, -, -, hul, huyl, hfu⟩ := DataW.trod_array Try.underlying55 t3
    rw [show Try.prog.cellsOf 3 = 1 by kernel_rfl] at hfu
    have a0 := hfu 0 (by omega)
    have a1 := hfu 1 (by omega)
    have b0 : us[0]? = some (us[0]'(by omega)) := List.getElem?_eq_getElem (by omega)
    have b1 : us[1]? = some (us[1]'(by omega)) := List.getElem?_eq_getElem (by omega)
    rw [b0] at a0
    rw [b1] at a1
    obtain ⟨z3, f3, _, _⟩ := DataW.trod_int Try.underlying3 a0
    obtain ⟨z4, f4, _, _⟩ := DataW.trod_int Try.underlying3 a1
    simp only [Nat.zero_mul, Nat.one_mul, List.drop_zero, List.drop_succ_cons, List.take_succ_cons, List.take_zero, List.cons.injEq, and_true] at f0 f3 f4
    subst f0 f3 f4
    have := lit_u32 w0
    refine ⟨⟨z0.toNat, pl, sp, z3, z4⟩, x1, x2, ?_, ⟨h1, h2, by show z0.toNat < 4294967296; omega⟩⟩
    unfold tabV Tb.cells
    show _ = Value.agg #[.int .u32 (z0.toNat : Nat), x1, x2, .int .i64 z3, .int .i64 z4]
    rw [Int.toNat_of_nonneg this.1]
end Go.Proofs.Ytogejjbclimjjaa
