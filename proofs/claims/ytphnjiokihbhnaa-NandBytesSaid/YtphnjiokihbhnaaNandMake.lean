/- nand: rows that are made: of bools, of blocks, of pages; events that are copied. -/
--only r2
import Derived.Test.YtphnjiokihbhnaaNandErase
import Derived.Test.YtphnjiokihbhnaaGeo2
import Derived.Test.YtphnjiokihbhnaaBorn
namespace Go.Proofs.Ytphnjiokihbhnaa
set_option linter.unusedVariables false
set_option linter.unusedSimpArgs false
open Go.RowKit

theorem RV.single' {w : World} (x : Value) (t : TypeId) : RV (w.alloc (.cells #[x] t)) (.slice (some ⟨w.heap.size, 0, none⟩) 1 1) [x] :=
  RV.block (heap_new _ _) rfl (Nat.le_refl _) (by unfold maxLen; omega) (by simp)
theorem infoBool : (Try.prog.info? 4).map (fun i => (i.zero, i.size, i.bytes)) = some (some (.bool false), 1, 1) := by kernel_rfl
theorem infoBlk : (Try.prog.info? 89).map (fun i => (i.zero, i.size, i.bytes)) = some (some (.agg #[.slice none 0 0, .int .i64 0, .int .i64 0, .bool false]), 4, 48) := by kernel_rfl
theorem infoPage : (Try.prog.info? 96).map (fun i => (i.zero, i.size, i.bytes)) = some (some (.agg #[.slice none 0 0, .slice none 0 0]), 2, 48) := by kernel_rfl
theorem infoEv : (Try.prog.info? 92).map (fun i => (i.zero, i.size, i.bytes)) = some (some (.agg #[.int .i64 0, .int .i64 0, .int .i64 0, .slice none 0 0]), 4, 48) := by kernel_rfl
theorem infoBlkS : (Try.prog.info? 86).map (fun i => (i.zero, i.size, i.bytes)) = some (some (.slice none 0 0), 1, 24) := by kernel_rfl

/-- make([]T, n), T of some cells -/
theorem make_any {t e : TypeId} {z : Value} {size bytes : Nat} (ht : Try.prog.underlying t = some (.slice e)) (hi : (Try.prog.info? e).map (fun i => (i.zero, i.size, i.bytes)) = some (some z, size, bytes)) (n : Nat) (hn : n ≤ 1000000) (hb : bytes ≤ 1000) (w : World) :
    (Instr.makeSlice t (.int .i64 n) (.int .i64 n)).run Try.prog w = .ok (.slice (some ⟨w.heap.size, 0, none⟩) n n) (w.alloc (.cells (madeCells z.cells (n * size)) e)) := by
  obtain ⟨i, hi, hz0, hz1, hz2⟩ := info_parts hi
  have hle : n * bytes ≤ 1000000 * 1000 := Nat.mul_le_mul hn hb
  have h := run_make (P := Try.prog) w t e i z ht hi hz0 .i64 .i64 n n (by omega) (by omega) (by
    have h1 : ((bytes : Int) * (n : Int)) = ((n * bytes : Nat) : Int) := by rw [Int.natCast_mul, Int.mul_comm]
    rw [hz2, h1]; omega) (by omega)
  rw [hz1] at h
  simpa using h
theorem made_get (z : Array Value) (n i : Nat) (hi : i < n) (hz : 0 < z.size) : (madeCells z n)[i]? = some (z[i % z.size]'(Nat.mod_lt _ hz)) := by
  simp [madeCells, hi, Array.getElem?_eq_getElem, Nat.mod_lt _ hz]
/-- a new row of so many cells -/
theorem Row.made {w : World} {z : Array Value} {n t b : Nat} (hb : b = w.heap.size) (hz : 0 < z.size) (hn : ∀ v ∈ z, NB v) : Row (w.alloc (.cells (madeCells z n) t)) b n (fun o => z[o % z.size]'(Nat.mod_lt _ hz)) :=
  Row.mk' (heap_is hb) (fun o ho => made_get z n o ho hz) fun x hx => by
    obtain ⟨i, hi, rfl⟩ := Array.mem_iff_getElem.mp hx
    have hsz := size_madeCells z n
    have := made_get z n i (by omega) hz
    rw [Array.getElem?_eq_getElem hi] at this
    rw [Option.some.inj this]
    exact hn _ (Array.getElem_mem _)

/-- an event's cells, in a row -/
def evCell (xs : List Ev) (vs : Nat → Value) (o : Nat) : Value :=
  if o % 4 = 0 then .int .i64 (xs.getD (o / 4) .zero).op else if o % 4 = 1 then .int .i64 (xs.getD (o / 4) .zero).kind else if o % 4 = 2 then .int .i64 (xs.getD (o / 4) .zero).chip else vs (o / 4)
theorem REv.lefts {w : World} {a : Option Addr} {cap : Nat} {xs : List Ev} {S : Nat → Prop} (h : REv w a cap xs S) : ∃ vs : Nat → Value, ∀ i (hi : i < xs.length), RB w (vs i) xs[i].left ∧ ∃ b o, a = some ⟨b, o, none⟩ ∧ ∀ j, j < 4 → w.cell? ⟨b, o + (i * 4 + j), none⟩ = some (evCell xs vs (i * 4 + j)) := by
  obtain ⟨h2, h3, h0, h4⟩ := h
  rcases h4 with rfl | ⟨b, o, rfl, hs, hc⟩
  · exact ⟨fun _ => nilV, fun i hi => by simp at hi⟩
  · refine ⟨fun i => if h : i < xs.length then Classical.choose (hc i h) else nilV, fun i hi => ?_⟩
    have hx := Classical.choose_spec (hc i hi)
    generalize hv : Classical.choose (hc i hi) = v at hx
    obtain ⟨c0, c1, c2, c3, hr⟩ := hx
    have hg : xs.getD i .zero = xs[i] := by simp [List.getD, hi]
    have hvs : (if h : i < xs.length then Classical.choose (hc i h) else nilV) = v := by rw [dif_pos hi, hv]
    refine ⟨by simp only [hvs]; exact hr, b, o, rfl, fun j hj => ?_⟩
    have e1 : (i * 4 + j) / 4 = i := by omega
    have e2 : (i * 4 + j) % 4 = j := by omega
    unfold evCell
    simp only [e1, e2, hg, hvs]
    obtain rfl | rfl | rfl | rfl : j = 0 ∨ j = 1 ∨ j = 2 ∨ j = 3 := by omega
    · exact c0
    · exact c1
    · exact c2
    · exact c3
theorem evCell_one (xs : List Ev) (vs : Nat → Value) (n : Nat) (hv : ∀ i, i < n → (vs i).oneCell' = true) : ∀ u ∈ (List.range (n * 4)).map (evCell xs vs), u.oneCell' = true := fun u hu => by
  obtain ⟨o, ho, rfl⟩ := List.mem_map.mp hu
  have ho := List.mem_range.mp ho
  unfold evCell
  split
  · rfl
  · split
    · rfl
    · split
      · rfl
      · exact hv _ (by omega)
/-- a row of events lies in a block of events -/
def EvTyped (w : World) (B : Nat) (a : Option Addr) : Prop := ∀ g o sp, a = some ⟨g, o, sp⟩ → B ≤ g ∧ ∃ cs fz, w.heap[g]? = some (.cells cs 92 fz)
theorem EvTyped.none (w : World) (B : Nat) : EvTyped w B none := fun _ _ _ h => by cases h
theorem EvTyped.below {w w' : World} {B : Nat} {a : Option Addr} (h : EvTyped w B a) (hb : Below w.heap.size w w') : EvTyped w' B a := fun g o sp e => by
  obtain ⟨h1, cs, fz, hh⟩ := h g o sp e
  exact ⟨h1, cs, fz, heap_keep hb hh⟩
theorem EvTyped.mono {w : World} {B B' : Nat} {a : Option Addr} (h : EvTyped w B a) (hb : B' ≤ B) : EvTyped w B' a := fun g o sp e => ⟨Nat.le_trans hb (h g o sp e).1, (h g o sp e).2⟩
theorem EvTyped.alloc {w : World} {B : Nat} {a : Option Addr} (h : EvTyped w B a) (o : Obj) : EvTyped (w.alloc o) B a := h.below ((Below.refl _ _).alloc (Nat.le_refl _) o)
/-- append([]Event(nil), events...) -/
theorem wpList_copy_ev {w : World} {ops : Array Oper} {rest : List Oper} {o : Oper} {a : Act} {Q : Exit → Act → World → Prop} (hgd : o.guard = none) (s x : Operand)
    (ho : o.op = .call { callee := .builtin .append, args := #[s, x], argTypes := #[50, 50] }) (hs : a.eval s = .slice none 0 0) (ea : Option Addr) (ec : Nat) (xs : List Ev) (S : Nat → Prop)
    (hx : a.eval x = .slice ea xs.length ec) (hy : REv w ea ec xs S) (hn : xs.length ≤ 1000)
    (h : ∀ ea' ec' w', REv w' ea' ec' xs (fun b => w.heap.size ≤ b) → EvTyped w' w.heap.size ea' → w.grownBy w' none → wpList Try.prog ops Q rest (a.put o.dst (.slice ea' xs.length ec')) w') : wpList Try.prog ops Q (o :: rest) a w := by
  obtain ⟨i, hi, hz0, hz1, hz2⟩ := info_parts infoEv
  obtain ⟨vs, hvs⟩ := hy.lefts
  obtain ⟨h2, h3, h0, h4⟩ := hy
  cases ea with
  | none =>
    have hc := h0 rfl
    subst hc
    have hn0 : xs = [] := List.length_eq_zero_iff.mp (by omega)
    subst hn0
    refine wpList_append_own_none hgd s x 50 ho w.heap.size 92 i 4 Try.underlying50 hi (.slice none 0 0) 0 [] hs (World.ownsRow_nil _ _ _ _) hx ?_
    exact h none 0 w ⟨Nat.le_refl _, by simp [maxLen], fun _ => rfl, .inl rfl⟩ (EvTyped.none _ _) ⟨rfl, rfl, rfl, Nat.le_refl _, fun _ _ _ => rfl⟩
  | some ad =>
    refine wpList_append_own w hgd s x 50 ho w.heap.size 92 i _ 4 48 Try.underlying50 hi hz0 hz1 hz2 rfl (by decide) (.slice none 0 0) 0 [] hs (World.ownsRow_nil _ _ _ _) ad xs.length ec ((List.range (xs.length * 4)).map (evCell xs vs)) hx (by simp) ?_ ?_ (by unfold maxLen; omega) (by omega) (Nat.le_refl _) ?_
    · intro j u hu
      obtain ⟨hj, rfl⟩ := List.getElem?_eq_some_iff.mp hu
      simp only [List.length_map, List.length_range] at hj
      obtain ⟨-, b, o', e, hc⟩ := hvs (j / 4) (by omega)
      simp only [Option.some.injEq] at e
      subst e
      rw [add_plain]
      have := hc (j % 4) (by omega)
      rw [show j / 4 * 4 + j % 4 = j by omega] at this
      rw [this]; simp
    · refine evCell_one xs vs _ fun k hk => ?_
      obtain ⟨av, cv, e, -⟩ := (hvs k hk).1.form
      rw [e]; rfl
    · intro v' w' hown hg _
      have hb := below_grown_none hg
      simp only [Nat.zero_add, List.nil_append] at hown
      rcases hown.2 with ⟨rfl, hn0⟩ | ⟨g, cap, cur, rfl, hgb, hgg, hnc, hcm, -, -⟩
      · have hn0 : xs = [] := List.length_eq_zero_iff.mp hn0
        subst hn0
        exact h none 0 w' ⟨Nat.le_refl _, by simp [maxLen], fun _ => rfl, .inl rfl⟩ (EvTyped.none _ _) hg
      · refine h (some ⟨g, 0, none⟩) cap w' ⟨hnc, hcm, (fun h => by cases h), .inr ⟨g, 0, rfl, hgb, fun k hk => ?_⟩⟩ (fun g' o' sp' e => by simp only [Option.some.injEq, Addr.mk.injEq] at e; obtain ⟨rfl, -, -⟩ := e; exact ⟨hgb, _, _, hgg⟩) hg
        obtain ⟨hv, -⟩ := hvs k hk
        have hg' : xs.getD k .zero = xs[k] := by simp [List.getD, hk]
        have hcell : ∀ j, j < 4 → w'.cell? ⟨g, 0 + k * 4 + j, none⟩ = some (evCell xs vs (k * 4 + j)) := fun j hj => by
          have := hown.cells (g := g) rfl (k * 4 + j) (evCell xs vs (k * 4 + j)) (by rw [List.getElem?_map, List.getElem?_range (by omega)]; rfl)
          rw [add_plain] at this
          rw [Nat.zero_add]
          rwa [Nat.zero_add] at this
        have e1 : ∀ j, j < 4 → (k * 4 + j) / 4 = k ∧ (k * 4 + j) % 4 = j := fun j hj => by omega
        have c0 := hcell 0 (by omega)
        have c1 := hcell 1 (by omega)
        have c2 := hcell 2 (by omega)
        have c3 := hcell 3 (by omega)
        unfold evCell at c0 c1 c2 c3
        simp only [(e1 0 (by omega)).1, (e1 0 (by omega)).2, hg'] at c0
        simp only [(e1 1 (by omega)).1, (e1 1 (by omega)).2, hg'] at c1
        simp only [(e1 2 (by omega)).1, (e1 2 (by omega)).2, hg'] at c2
        simp only [(e1 3 (by omega)).1, (e1 3 (by omega)).2, hg'] at c3
        exact ⟨vs k, c0, c1, c2, c3, hv.below hb⟩
end Go.Proofs.Ytphnjiokihbhnaa
