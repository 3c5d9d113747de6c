/- What NandLoads and NandBytes are given, opened. -/
--only r2
import Derived.Test.YtphnjiokihbhnaaOpenOps
import Derived.Test.YtphnjiokihbhnaaNandNew
import Derived.OpenShut
/- What NandPlays and NandLoads are given, opened. -/
namespace Go.Proofs.Ytphnjiokihbhnaa
set_option linter.unusedVariables false
set_option linter.unusedSimpArgs false
open Go.RowKit Go.ChangeShapes Go.WideShapes Go.Deep

theorem open_rb {H : Type} {enc : TypeId × Value → H} {W : World} {v : Value} {fuel : Nat} {x : DataW H × List MemPlace}
    (hf : DataW.trod enc Try.prog W 0 (fun _ => true) true fuel 31 [v] = some x) : ∃ l : List UInt8, RB W v l := by
  rcases open_ints Try.underlying31 Try.underlying5 (by kernel_rfl) hf with ⟨hcs, _⟩ | ⟨x, len, cap, zs, hcs, _, hl, hm, hz, _, hcell, hwz⟩
  · simp only [List.cons.injEq, and_true] at hcs
    subst hcs
    exact ⟨[], RB.nil W⟩
  · simp only [List.cons.injEq, and_true] at hcs
    subst hcs
    obtain ⟨l, rfl⟩ := bytes_of_ints hwz
    have hlc : l.length = cap := by simpa using hz
    refine ⟨l.take len, some x, cap, by simp; omega, by simp; omega, hm, fun h => (by cases h), ?_⟩
    by_cases h0 : len = 0
    · left; subst h0; simp
    · right
      obtain ⟨b, off, spot⟩ := x
      have hc := hcell 0 (by simp; omega)
      have hspot : spot = none := by simpa [Addr.add] using World.cell?_spot hc
      subst hspot
      refine ⟨b, off, rfl, fun i hi => ?_⟩
      have hi' : i < l.length := by simp at hi; omega
      have := hcell i (by simpa using hi')
      rw [add_plain] at this
      rw [this]
      simp [List.getD, hi', u8v]

set_option maxRecDepth 100000 in
theorem open_pairs {H : Type} {enc : TypeId × Value → H} {W : World} {v : Value} {fuel : Nat} {x : DataW H × List MemPlace}
    (hf : DataW.trod enc Try.prog W 0 (fun _ => true) true fuel 49 [v] = some x) : ∃ xs : List (Int × Int), RPair W v xs := by
  rcases open_slice Try.underlying49 hf with ⟨hcs, _⟩ | ⟨a, len, cap, m, n, D, Pl, hcs, _, hl, hm, hmm, _, hel⟩
  · simp only [List.cons.injEq, and_true] at hcs
    subst hcs
    exact ⟨[], RPair.nil W⟩
  · simp only [List.cons.injEq, and_true] at hcs
    subst hcs
    have hmc : m = cap := by simpa using hmm
    subst hmc
    rw [show Try.prog.cellsOf 56 = 2 by kernel_rfl] at hel
    obtain ⟨b, off, spot⟩ := a
    have hspot : 0 < len → spot = none := fun hp => by
      obtain ⟨cs', hc, ht⟩ := hel 0 (by omega)
      obtain ⟨_, hcl, hat⟩ := World.cells?_some hc
      have a0 := hat 0 (by omega)
      rw [List.getElem?_eq_getElem (by omega)] at a0
      simpa [Addr.add] using World.cell?_spot a0
    have hel2 : ∀ i, i < len → ∃ x : Int × Int, spot = none ∧ W.cell? ⟨b, off + i * 2, none⟩ = some (.int .i64 x.1) ∧ W.cell? ⟨b, off + i * 2 + 1, none⟩ = some (.int .i64 x.2) := by
      intro i hi
      obtain ⟨cs', hc, ht⟩ := hel i (by omega)
      obtain ⟨_, hcl, hat⟩ := World.cells?_some hc
      obtain ⟨ys, k, -, -, hlen, hyl, hff⟩ := DataW.trod_array Try.underlying56 ht
      rw [show Try.prog.cellsOf 3 = 1 by kernel_rfl] at hff
      match cs', hcl with
      | [c0, c1], _ =>
        have h0 := hff 0 (by omega)
        have h1 := hff 1 (by omega)
        have y0 : ys[0]? = some (ys[0]'(by omega)) := List.getElem?_eq_getElem (by omega)
        have y1 : ys[1]? = some (ys[1]'(by omega)) := List.getElem?_eq_getElem (by omega)
        rw [y0] at h0
        rw [y1] at h1
        obtain ⟨z0, f0, _, _⟩ := DataW.trod_int Try.underlying3 h0
        obtain ⟨z1, f1, _, _⟩ := DataW.trod_int Try.underlying3 h1
        simp only [Nat.zero_mul, Nat.one_mul, List.drop_zero, List.drop_succ_cons, List.take_succ_cons, List.take_zero, List.cons.injEq, and_true] at f0 f1
        subst f0 f1
        have a0 := hat 0 (by omega)
        have a1 := hat 1 (by omega)
        simp only [List.getElem?_cons_zero, List.getElem?_cons_succ] at a0 a1
        have hspot := hspot (by omega)
        subst hspot
        rw [add_plain, add_plain] at a0 a1
        exact ⟨(z0, z1), rfl, a0, a1⟩
    obtain ⟨xs, hlen, hxs⟩ := list_of _ len hel2
    refine ⟨xs, some ⟨b, off, spot⟩, m, by rw [hlen], by omega, hm, ?_⟩
    by_cases h0 : xs = []
    · exact .inl h0
    · have hp : 0 < xs.length := by cases xs; exact absurd rfl h0; simp
      obtain ⟨hs, _⟩ := hxs 0 hp
      subst hs
      exact .inr ⟨b, off, rfl, fun i hi => (hxs i hi).2⟩

set_option maxRecDepth 100000 in
theorem open_evs {H : Type} {enc : TypeId × Value → H} {W : World} {v : Value} {fuel : Nat} {x : DataW H × List MemPlace}
    (hf : DataW.trod enc Try.prog W 0 (fun _ => true) true fuel 50 [v] = some x) : ∃ (ea : Option Addr) (ec : Nat) (xs : List Ev), v = .slice ea xs.length ec ∧ REv W ea ec xs (fun _ => True) ∧ ∀ x ∈ xs, I64 x.op ∧ I64 x.kind ∧ I64 x.chip := by
  rcases open_slice_fields Try.underlying50 Try.underlying92 (by kernel_rfl) (by kernel_rfl) hf with ⟨hcs, _⟩ | ⟨x, len, cap, m, hcs, _, hl, hm, hmm, hfl⟩
  · simp only [List.cons.injEq, and_true] at hcs
    subst hcs
    exact ⟨none, 0, [], rfl, ⟨Nat.le_refl _, by simp [maxLen], fun _ => rfl, .inl rfl⟩, fun x hx => by cases hx⟩
  · simp only [List.cons.injEq, and_true] at hcs
    subst hcs
    have hmc : m = cap := by simpa using hmm
    subst hmc
    obtain ⟨b, off, spot⟩ := x
    have hspot : 0 < len → spot = none := fun hp => by
      obtain ⟨ys, n, hj⟩ := hfl 0 (by omega)
      obtain ⟨v0, y0, e0, _, t0⟩ := hj 0 _ rfl
      simpa [Addr.add] using World.cell?_spot e0
    have hel : ∀ i, i < len → ∃ x : Ev, (I64 x.op ∧ I64 x.kind ∧ I64 x.chip) ∧ spot = none ∧ ∃ u, W.cell? ⟨b, off + i * 4, none⟩ = some (.int .i64 x.op) ∧ W.cell? ⟨b, off + i * 4 + 1, none⟩ = some (.int .i64 x.kind) ∧ W.cell? ⟨b, off + i * 4 + 2, none⟩ = some (.int .i64 x.chip) ∧ W.cell? ⟨b, off + i * 4 + 3, none⟩ = some u ∧ RB W u x.left := by
      intro i hi
      obtain ⟨ys, n, hj⟩ := hfl i (by omega)
      obtain ⟨v0, y0, e0, _, t0⟩ := hj 0 _ rfl
      obtain ⟨v1, y1, e1, _, t1⟩ := hj 1 _ rfl
      obtain ⟨v2, y2, e2, _, t2⟩ := hj 2 _ rfl
      obtain ⟨v3, y3, e3, _, t3⟩ := hj 3 _ rfl
      obtain rfl := hspot (by omega)
      rw [add_plain] at e0 e1 e2 e3
      obtain ⟨z0, f0, _, w0⟩ := DataW.trod_int Try.underlying3 t0
      obtain ⟨z1, f1, _, w1⟩ := DataW.trod_int Try.underlying3 t1
      obtain ⟨z2, f2, _, w2⟩ := DataW.trod_int Try.underlying3 t2
      simp only [List.cons.injEq, and_true] at f0 f1 f2
      subst f0 f1 f2
      obtain ⟨l, hl'⟩ := open_rb t3
      exact ⟨⟨z0, z1, z2, l⟩, ⟨lit_i64 w0, lit_i64 w1, lit_i64 w2⟩, rfl, v3, e0, by rw [Nat.add_assoc]; exact e1, by rw [Nat.add_assoc]; exact e2, by rw [Nat.add_assoc]; exact e3, hl'⟩
    obtain ⟨xs, hlen, hxs⟩ := list_of _ len hel
    refine ⟨some ⟨b, off, spot⟩, m, xs, by rw [hlen], ⟨by omega, hm, (fun h => by cases h), ?_⟩, fun x hx => ?_⟩
    · by_cases h0 : xs = []
      · exact .inl h0
      · have hp : 0 < xs.length := by cases xs; exact absurd rfl h0; simp
        obtain ⟨_, hs, _⟩ := hxs 0 hp
        subst hs
        exact .inr ⟨b, off, rfl, trivial, fun i hi => (hxs i hi).2.2⟩
    · obtain ⟨i, hi, rfl⟩ := List.getElem_of_mem hx
      exact (hxs i hi).1

set_option maxRecDepth 100000 in
/-- what NandPlays is given -/
theorem open_plays {H : Type} {enc : TypeId × Value → H} {W : World} {v : Value} {d : DataW H} {p : List MemPlace} {base : Nat}
    (h : DataW.Trod enc Try.prog W 0 (fun _ => true) true 52 v d p) (hv : Value.okWide Try.prog W .any base 52 v) :
    ∃ (chips : Int) (vb : Value) (bads : List (Int × Int)) (ea : Option Addr) (ec : Nat) (xs : List Ev) (r : Value) (os : List POp), v = .agg #[.int .i64 chips, vb, .slice ea xs.length ec, r] ∧ RPair W vb bads ∧ REv W ea ec xs (fun _ => True) ∧ (∀ x ∈ xs, I64 x.op ∧ I64 x.kind ∧ I64 x.chip) ∧ ROps W r os ∧ ∀ x ∈ os, x.Ok := by
  obtain ⟨cs, rfl, hs⟩ := okWide_struct Try.underlying52 hv
  obtain ⟨fuel, hf⟩ := h
  obtain ⟨ys, n, rfl, hy, hlen, hyl, hff⟩ := DataW.trod_struct Try.underlying52 hf
  have hsz : cs.size = 4 := hs.trans (by kernel_rfl)
  obtain ⟨cl⟩ := cs
  match cl, hsz with
  | [x0, x1, x2, x3], _ =>
    obtain ⟨y0, y1, y2, y3, rfl⟩ : ∃ y0 y1 y2 y3, ys = [y0, y1, y2, y3] := by
      match ys, hyl with
      | [y0, y1, y2, y3], _ => exact ⟨y0, y1, y2, y3, rfl⟩
    have t0 : DataW.trod enc Try.prog W 0 (fun _ => true) true n 3 (List.take (Try.prog.cellsOf 3) [x0, x1, x2, x3]) = some y0 := hff 0 _ rfl
    have t1 : DataW.trod enc Try.prog W 0 (fun _ => true) true n 49 (List.take (Try.prog.cellsOf 49) [x1, x2, x3]) = some y1 := hff 1 _ rfl
    have t2 : DataW.trod enc Try.prog W 0 (fun _ => true) true n 50 (List.take (Try.prog.cellsOf 50) [x2, x3]) = some y2 := hff 2 _ rfl
    have t3 : DataW.trod enc Try.prog W 0 (fun _ => true) true n 36 (List.take (Try.prog.cellsOf 36) [x3]) = some y3 := hff 3 _ rfl
    rw [show Try.prog.cellsOf 3 = 1 by kernel_rfl] at t0
    rw [show Try.prog.cellsOf 49 = 1 by kernel_rfl] at t1
    rw [show Try.prog.cellsOf 50 = 1 by kernel_rfl] at t2
    rw [show Try.prog.cellsOf 36 = 1 by kernel_rfl] at t3
    obtain ⟨z0, f0, _, w0⟩ := DataW.trod_int Try.underlying3 t0
    obtain ⟨bads, h1⟩ := open_pairs t1
    obtain ⟨ea, ec, xs, f2, h2, h3⟩ := open_evs t2
    obtain ⟨os, h4, h5⟩ := open_ops t3
    simp only [List.take, List.cons.injEq, and_true] at f0
    subst f0 f2
    exact ⟨z0, x1, bads, ea, ec, xs, x3, os, rfl, h1, h2, h3, h4, h5⟩
end Go.Proofs.Ytphnjiokihbhnaa
namespace Go.Proofs.Ytphnjiokihbhnaa
set_option linter.unusedVariables false
set_option linter.unusedSimpArgs false
open Go.RowKit Go.ChangeShapes Go.WideShapes Go.Deep

set_option maxRecDepth 100000 in
/-- what NandLoads is given -/
theorem open_loads {H : Type} {enc : TypeId × Value → H} {W : World} {v : Value} {d : DataW H} {p : List MemPlace} {base : Nat}
    (h : DataW.Trod enc Try.prog W 0 (fun _ => true) true 81 v d p) (hv : Value.okWide Try.prog W .any base 81 v) :
    ∃ (chips : Int) (ea : Option Addr) (ec : Nat) (xs : List Ev) (r r2 : Value) (os os2 : List POp), v = .agg #[.int .i64 chips, .slice ea xs.length ec, r, r2] ∧ REv W ea ec xs (fun _ => True) ∧ (∀ x ∈ xs, I64 x.op ∧ I64 x.kind ∧ I64 x.chip) ∧ ROps W r os ∧ (∀ x ∈ os, x.Ok) ∧ ROps W r2 os2 ∧ ∀ x ∈ os2, x.Ok := by
  obtain ⟨cs, rfl, hs⟩ := okWide_struct Try.underlying81 hv
  obtain ⟨fuel, hf⟩ := h
  obtain ⟨ys, n, rfl, hy, hlen, hyl, hff⟩ := DataW.trod_struct Try.underlying81 hf
  have hsz : cs.size = 4 := hs.trans (by kernel_rfl)
  obtain ⟨cl⟩ := cs
  match cl, hsz with
  | [x0, x1, x2, x3], _ =>
    obtain ⟨y0, y1, y2, y3, rfl⟩ : ∃ y0 y1 y2 y3, ys = [y0, y1, y2, y3] := by
      match ys, hyl with
      | [y0, y1, y2, y3], _ => exact ⟨y0, y1, y2, y3, rfl⟩
    have t0 : DataW.trod enc Try.prog W 0 (fun _ => true) true n 3 (List.take (Try.prog.cellsOf 3) [x0, x1, x2, x3]) = some y0 := hff 0 _ rfl
    have t1 : DataW.trod enc Try.prog W 0 (fun _ => true) true n 50 (List.take (Try.prog.cellsOf 50) [x1, x2, x3]) = some y1 := hff 1 _ rfl
    have t2 : DataW.trod enc Try.prog W 0 (fun _ => true) true n 36 (List.take (Try.prog.cellsOf 36) [x2, x3]) = some y2 := hff 2 _ rfl
    have t3 : DataW.trod enc Try.prog W 0 (fun _ => true) true n 36 (List.take (Try.prog.cellsOf 36) [x3]) = some y3 := hff 3 _ rfl
    rw [show Try.prog.cellsOf 3 = 1 by kernel_rfl] at t0
    rw [show Try.prog.cellsOf 50 = 1 by kernel_rfl] at t1
    rw [show Try.prog.cellsOf 36 = 1 by kernel_rfl] at t2 t3
    obtain ⟨z0, f0, _, w0⟩ := DataW.trod_int Try.underlying3 t0
    obtain ⟨ea, ec, xs, f1, h2, h3⟩ := open_evs t1
    obtain ⟨os, h4, h5⟩ := open_ops t2
    obtain ⟨os2, h6, h7⟩ := open_ops t3
    simp only [List.take, List.cons.injEq, and_true] at f0
    subst f0 f1
    exact ⟨z0, ea, ec, xs, x2, x3, os, os2, rfl, h2, h3, h4, h5, h6, h7⟩

set_option maxRecDepth 100000 in
/-- what NandBytes is given -/
theorem open_bytes {H : Type} {enc : TypeId × Value → H} {W : World} {v : Value} {d : DataW H} {p : List MemPlace} {base : Nat}
    (h : DataW.Trod enc Try.prog W 0 (fun _ => true) true 76 v d p) (hv : Value.okWide Try.prog W .any base 76 v) :
    ∃ (vb : Value) (b : List UInt8) (chips : Int) (r : Value) (os : List POp) (at' : Int) (c : UInt8), v = .agg #[vb, .int .i64 chips, r, .int .i64 at', u8v c] ∧ RB W vb b ∧ ROps W r os ∧ (∀ x ∈ os, x.Ok) ∧ I64 at' := by
  obtain ⟨cs, rfl, hs⟩ := okWide_struct Try.underlying76 hv
  obtain ⟨fuel, hf⟩ := h
  obtain ⟨ys, n, rfl, hy, hlen, hyl, hff⟩ := DataW.trod_struct Try.underlying76 hf
  have hsz : cs.size = 5 := hs.trans (by kernel_rfl)
  obtain ⟨cl⟩ := cs
  match cl, hsz with
  | [x0, x1, x2, x3, x4], _ =>
    obtain ⟨y0, y1, y2, y3, y4, rfl⟩ : ∃ y0 y1 y2 y3 y4, ys = [y0, y1, y2, y3, y4] := by
      match ys, hyl with
      | [y0, y1, y2, y3, y4], _ => exact ⟨y0, y1, y2, y3, y4, rfl⟩
    have t0 : DataW.trod enc Try.prog W 0 (fun _ => true) true n 31 (List.take (Try.prog.cellsOf 31) [x0, x1, x2, x3, x4]) = some y0 := hff 0 _ rfl
    have t1 : DataW.trod enc Try.prog W 0 (fun _ => true) true n 3 (List.take (Try.prog.cellsOf 3) [x1, x2, x3, x4]) = some y1 := hff 1 _ rfl
    have t2 : DataW.trod enc Try.prog W 0 (fun _ => true) true n 36 (List.take (Try.prog.cellsOf 36) [x2, x3, x4]) = some y2 := hff 2 _ rfl
    have t3 : DataW.trod enc Try.prog W 0 (fun _ => true) true n 3 (List.take (Try.prog.cellsOf 3) [x3, x4]) = some y3 := hff 3 _ rfl
    have t4 : DataW.trod enc Try.prog W 0 (fun _ => true) true n 5 (List.take (Try.prog.cellsOf 5) [x4]) = some y4 := hff 4 _ rfl
    rw [show Try.prog.cellsOf 31 = 1 by kernel_rfl] at t0
    rw [show Try.prog.cellsOf 3 = 1 by kernel_rfl] at t1 t3
    rw [show Try.prog.cellsOf 36 = 1 by kernel_rfl] at t2
    rw [show Try.prog.cellsOf 5 = 1 by kernel_rfl] at t4
    obtain ⟨b, h0⟩ := open_rb t0
    obtain ⟨z1, f1, _, w1⟩ := DataW.trod_int Try.underlying3 t1
    obtain ⟨os, h4, h5⟩ := open_ops t2
    obtain ⟨z3, f3, _, w3⟩ := DataW.trod_int Try.underlying3 t3
    obtain ⟨z4, f4, _, w4⟩ := DataW.trod_int Try.underlying5 t4
    simp only [List.take, List.cons.injEq, and_true] at f1 f3 f4
    obtain ⟨c, rfl⟩ := u8_of_nat (lit_u8 w4).1 (lit_u8 w4).2
    subst f1 f3 f4
    exact ⟨x0, b, z1, x2, os, z3, c, rfl, h0, h4, h5, lit_i64 w3⟩
end Go.Proofs.Ytphnjiokihbhnaa
