/- Small words over the model's memory, with no program in sight: slices that read as cells, bytes, numbers, rows of bytes; they stay what they are where old blocks stay. -/
import Derived.WalkKit
import Derived.RowKit3
import Derived.Lib.Hide
import Derived.Lib.SlBytesConst
import Derived.Handy
import Derived.Maps.AppendAt
import Derived.Laws.AppendOwnNone
import Derived.StillTailTactics
import Derived.Deep.QuietTactic
import Derived.BigQuiet
import Derived.KernelRfl
namespace Go.Proofs.Ytogejjbclimjjaa
set_option linter.unusedVariables false
set_option linter.unusedSimpArgs false
open Go.RowKit

abbrev u8v (c : UInt8) : Value := .int .u8 (c.toNat : Int)
abbrev i64v (n : Int) : Value := .int .i64 n

theorem heap_new (w : World) (o : Obj) : (w.alloc o).heap[w.heap.size]? = some o := by
  show (w.heap.push o)[w.heap.size]? = _
  simp
theorem heap_is {w : World} {b : Nat} {o : Obj} (h : b = w.heap.size) : (w.alloc o).heap[b]? = some o := by subst h; exact heap_new w o
theorem heap_lt {w : World} {b : Nat} {x : Obj} (h : w.heap[b]? = some x) : b < w.heap.size := by
  rcases Nat.lt_or_ge b w.heap.size with h' | h'
  · exact h'
  · rw [Array.getElem?_eq_none h'] at h; cases h
theorem heap_old {w : World} {b : Nat} {x : Obj} (o : Obj) (h : w.heap[b]? = some x) : (w.alloc o).heap[b]? = some x := by
  rw [Below.heap_alloc w o b (heap_lt h)]; exact h
theorem cell_is {w : World} {b o : Nat} {cs : Array Value} {t : TypeId} {fz : Nat × Nat} {v : Value} (h : b = w.heap.size) (hv : cs[o]? = some v) : (w.alloc (.cells cs t fz)).cell? ⟨b, o, none⟩ = some v := by
  simp only [World.cell?, heap_is h]
  simpa using hv
theorem cell_lt {w : World} {b o : Nat} {x : Value} (h : w.cell? ⟨b, o, none⟩ = some x) : b < w.heap.size := by
  rcases Nat.lt_or_ge b w.heap.size with h' | h'
  · exact h'
  · simp [World.cell?, Array.getElem?_eq_none h'] at h

/-- the world w' holds what w held, below block number B -/
theorem below_cell {B : Nat} {w w' : World} (hb : Below B w w') {b o : Nat} {x : Value} (hB : b < B) (h : w.cell? ⟨b, o, none⟩ = some x) : w'.cell? ⟨b, o, none⟩ = some x := by
  rw [hb.cell (p := ⟨b, o, none⟩) hB]; exact h

theorem below_draws (w : World) (n : Nat) : Below w.heap.size w (w.drewN n) := ⟨rfl, rfl, rfl, Nat.le_refl _, fun _ _ => rfl⟩

/-- a slice value (of elements of one cell) reads as these cells -/
def RV (w : World) (v : Value) (xs : List Value) : Prop :=
  ∃ (a : Option Addr) (cap : Nat), v = .slice a xs.length cap ∧ xs.length ≤ cap ∧ cap ≤ maxLen ∧ (a = none → cap = 0) ∧
    (xs = [] ∨ ∃ b o, a = some ⟨b, o, none⟩ ∧ ∀ (i : Nat) (h : i < xs.length), w.cell? ⟨b, o + i, none⟩ = some xs[i])

theorem RV.nil (w : World) : RV w (.slice none 0 0) [] := ⟨none, 0, rfl, Nat.le_refl _, by simp [maxLen], fun _ => rfl, .inl rfl⟩
theorem RV.mk {w : World} {b o n cap : Nat} {xs : List Value} (hn : n = xs.length) (hc : n ≤ cap) (hm : cap ≤ maxLen) (h : ∀ (i : Nat) (hi : i < xs.length), w.cell? ⟨b, o + i, none⟩ = some xs[i]) :
    RV w (.slice (some ⟨b, o, none⟩) n cap) xs := by
  subst hn; exact ⟨_, _, rfl, hc, hm, fun h => (by cases h), .inr ⟨b, o, rfl, h⟩⟩
theorem RV.keep {w w' : World} {v : Value} {xs : List Value} (h : RV w v xs) (hk : ∀ b o x, w.cell? ⟨b, o, none⟩ = some x → x ∈ xs → w'.cell? ⟨b, o, none⟩ = some x) : RV w' v xs := by
  obtain ⟨a, cap, rfl, h1, h2, h0, h3⟩ := h
  refine ⟨a, cap, rfl, h1, h2, h0, ?_⟩
  rcases h3 with h3 | ⟨b, o, rfl, hc⟩
  · exact .inl h3
  · exact .inr ⟨b, o, rfl, fun i hi => hk _ _ _ (hc i hi) (List.getElem_mem hi)⟩
theorem RV.below {w w' : World} {v : Value} {xs : List Value} (h : RV w v xs) (hb : Below w.heap.size w w') : RV w' v xs :=
  h.keep fun _ _ _ hc _ => below_cell hb (cell_lt hc) hc
theorem RV.len {w : World} {v : Value} {xs : List Value} (h : RV w v xs) : xs.length ≤ maxLen := by
  obtain ⟨_, _, _, h1, h2, _⟩ := h; omega
/-- the value written out, with its cells -/
theorem RV.out {w : World} {v : Value} {xs : List Value} (h : RV w v xs) (hne : 0 < xs.length) :
    ∃ b o cap, v = .slice (some ⟨b, o, none⟩) xs.length cap ∧ xs.length ≤ cap ∧ cap ≤ maxLen ∧ ∀ (i : Nat) (h : i < xs.length), w.cell? ⟨b, o + i, none⟩ = some xs[i] := by
  obtain ⟨a, cap, rfl, h1, h2, _, h3⟩ := h
  rcases h3 with h3 | ⟨b, o, rfl, hc⟩
  · subst h3; simp at hne
  · exact ⟨b, o, cap, rfl, h1, h2, hc⟩
theorem RV.form {w : World} {v : Value} {xs : List Value} (h : RV w v xs) : ∃ a cap, v = .slice a xs.length cap ∧ xs.length ≤ cap ∧ cap ≤ maxLen := by
  obtain ⟨a, cap, rfl, h1, h2, _⟩ := h; exact ⟨a, cap, rfl, h1, h2⟩
/-- what the call owns reads as its cells -/
theorem RV.own {w : World} {base e : Nat} {v : Value} {n : Nat} {xs : List Value} (h : w.ownsRow base e 1 v n xs) : RV w v xs := by
  have hl : xs.length = n := by rw [h.1, Nat.mul_one]
  rcases h.2 with ⟨rfl, h0⟩ | ⟨g, cap, cur, rfl, _, _, hc, hm, _, _⟩
  · have : xs = [] := List.length_eq_zero_iff.mp (by omega)
    subst this
    exact RV.nil w
  · refine RV.mk hl.symm hc hm fun i hi => ?_
    have := h.cells (g := g) rfl i xs[i] (List.getElem?_eq_getElem hi)
    have hadd : (⟨g, 0, none⟩ : Addr).add i = ⟨g, i, none⟩ := by unfold Addr.add; split <;> simp_all
    rw [hadd] at this
    rw [Nat.zero_add]; exact this
theorem own_slice {w : World} {base e size : Nat} {v : Value} {n : Nat} {xs : List Value} (h : w.ownsRow base e size v n xs) : ∃ a k, v = .slice a n k := by
  rcases h.2 with ⟨rfl, rfl⟩ | ⟨g, cap, cur, rfl, _⟩
  · exact ⟨_, _, rfl⟩
  · exact ⟨_, _, rfl⟩
/-- a block known whole -/
theorem RV.block {w : World} {b n cap t : Nat} {xs : List Value} {cs : Array Value} {fz : Nat × Nat} (hb : w.heap[b]? = some (.cells cs t fz)) (hn : n = xs.length) (hc : n ≤ cap) (hm : cap ≤ maxLen) (hcs : cs.toList.take n = xs) :
    RV w (.slice (some ⟨b, 0, none⟩) n cap) xs :=
  RV.mk hn hc hm fun i hi => by
    have h1 : xs[i]? = some xs[i] := List.getElem?_eq_getElem hi
    have h2 : cs.toList[i]? = some xs[i] := by
      rw [← h1, ← hcs, List.getElem?_take, if_pos (by omega)]
    simp only [World.cell?, hb, Nat.zero_add]
    simpa using h2

theorem add_plain (b o i : Nat) : (⟨b, o, none⟩ : Addr).add i = ⟨b, o + i, none⟩ := by unfold Addr.add; split <;> simp_all
/-- what s[i:j] is, as the model has it -/
def cutV (a : Option Addr) (cap i j : Nat) : Value := .slice (if cap = i then a else a.map (·.add i)) (j - i) (cap - i)
/-- parts of what a slice reads as: v[i:j] -/
theorem RV.cut {w : World} {a : Option Addr} {n cap : Nat} {xs : List Value} (h : RV w (.slice a n cap) xs) {i j : Nat} (hij : i ≤ j) (hj : j ≤ xs.length) : RV w (cutV a cap i j) ((xs.drop i).take (j - i)) := by
  obtain ⟨a', cap', e, h1, h2, h0, h3⟩ := h
  simp only [Value.slice.injEq] at e
  obtain ⟨rfl, rfl, rfl⟩ := e
  have hl : ((xs.drop i).take (j - i)).length = j - i := by simp; omega
  refine ⟨_, _, by rw [cutV, hl], by rw [hl]; omega, by omega, ?_, ?_⟩
  · intro hn
    split at hn
    · omega
    · have := h0 (by cases a <;> simp_all); omega
  · by_cases hz : j - i = 0
    · exact .inl (List.length_eq_zero_iff.mp (by omega))
    · rcases h3 with h3 | ⟨b, o, rfl, hc⟩
      · subst h3; simp at hj; omega
      · refine .inr ⟨b, o + i, ?_, fun k hk => ?_⟩
        · rw [if_neg (by omega)]; simp [add_plain]
        · rw [hl] at hk
          have := hc (i + k) (by omega)
          rw [Nat.add_assoc, this]
          simp [List.getElem_take, List.getElem_drop]
/-- s[i:j] of a slice of one-cell elements: no world turns -/
theorem run_cut {P : Program} {t e : TypeId} {ti : TypeInfo} (ht : P.underlying t = some (.slice e)) (hi : P.info? e = some ti) (hs : ti.size = 1) (a : Option Addr) (n cap i j : Nat) (hij : i ≤ j) (hj : j ≤ cap) (w : World) :
    (Instr.sliceAt t (.slice a n cap) (some (.int .i64 i)) (some (.int .i64 j)) none).run P w = .ok (cutV a cap i j) w := by
  simp [Instr.sliceAt, Instr.slice, Instr.sliceBounds, Instr.sliceBound, run_underlying ht, sizeOf, typeInfo, hi, hs, asIntOf, cutV, hij, hj]
theorem run_cut_from {P : Program} {t e : TypeId} {ti : TypeInfo} (ht : P.underlying t = some (.slice e)) (hi : P.info? e = some ti) (hs : ti.size = 1) (a : Option Addr) (n cap i : Nat) (hij : i ≤ n) (w : World) :
    (Instr.sliceAt t (.slice a n cap) (some (.int .i64 i)) none none).run P w = .ok (cutV a cap i n) w := by
  simp [Instr.sliceAt, Instr.slice, Instr.sliceBounds, Instr.sliceBound, run_underlying ht, sizeOf, typeInfo, hi, hs, asIntOf, cutV, hij]
theorem run_cut_to {P : Program} {t e : TypeId} {ti : TypeInfo} (ht : P.underlying t = some (.slice e)) (hi : P.info? e = some ti) (hs : ti.size = 1) (a : Option Addr) (n cap j : Nat) (hj : j ≤ cap) (w : World) :
    (Instr.sliceAt t (.slice a n cap) none (some (.int .i64 j)) none).run P w = .ok (cutV a cap 0 j) w := by
  simp [Instr.sliceAt, Instr.slice, Instr.sliceBounds, Instr.sliceBound, run_underlying ht, sizeOf, typeInfo, hi, hs, asIntOf, cutV, hj]

/-- append of what a slice reads as, onto a row of the call's own: nil and empty let in -/
theorem wpList_append_RV {P : Program} {w : World} {ops : Array Oper} {rest : List Oper} {o : Oper} {a : Act} {Q : Exit → Act → World → Prop} (hgd : o.guard = none) (s x : Operand) (t : TypeId)
    (ho : o.op = .call { callee := .builtin .append, args := #[s, x], argTypes := #[t, t] })
    (base : Nat) (e : TypeId) (i : TypeInfo) (z : Value) (bytes : Nat) (ht : P.underlying t = some (.slice e)) (hi : P.info? e = some i) (hz : i.zero = some z)
    (hsize : i.size = 1) (hby : i.bytes = bytes) (hzs : z.cells.size = 1)
    (v : Value) (n : Nat) (xs : List Value) (hs : a.eval s = v) (hown : w.ownsRow base e 1 v n xs)
    (y : Value) (news : List Value) (hx : a.eval x = y) (hy : RV w y news) (h1 : ∀ u ∈ news, u.oneCell' = true)
    (h63 : n + news.length ≤ maxLen) (hbytes : (n + news.length) * bytes ≤ 140737488355328) (hbase : base ≤ w.heap.size)
    (h : ∀ v' w', w'.ownsRow base e 1 v' (n + news.length) (xs ++ news) → w.grownBy w' v.ownBlock → (v' = .slice none 0 0 ↔ v = .slice none 0 0 ∧ news.length = 0) → wpList P ops Q rest (a.put o.dst v') w') : wpList P ops Q (o :: rest) a w := by
  obtain ⟨ya, cap, rfl, c1, c2, c3, c4⟩ := hy
  cases ya with
  | none =>
    have hc := c3 rfl
    subst hc
    have hn : news = [] := List.length_eq_zero_iff.mp (by omega)
    subst hn
    refine wpList_append_own_none hgd s x t ho base e i 1 ht hi v n xs hs hown (by rw [hx]; rfl) ?_
    refine h v w (by simpa using hown) ⟨rfl, rfl, rfl, Nat.le_refl _, fun _ _ _ => rfl⟩ (by simp)
  | some ad =>
    refine wpList_append_own w hgd s x t ho base e i z 1 bytes ht hi hz hsize hby hzs (by decide) v n xs hs hown ad news.length cap news hx (by rw [Nat.mul_one]) ?_ h1 h63 hbytes hbase h
    intro j u hu
    rcases c4 with c4 | ⟨b, o', e', hc⟩
    · subst c4; simp at hu
    · simp only [Option.some.injEq] at e'
      subst e'
      obtain ⟨hj, rfl⟩ := List.getElem?_eq_some_iff.mp hu
      rw [add_plain]; exact hc j hj
theorem oneCell_u8 (l : List UInt8) : ∀ u ∈ l.map u8v, u.oneCell' = true := fun u hu => by
  obtain ⟨c, _, rfl⟩ := List.mem_map.mp hu; rfl
theorem oneCell_i64 (l : List Int) : ∀ u ∈ l.map i64v, u.oneCell' = true := fun u hu => by
  obtain ⟨c, _, rfl⟩ := List.mem_map.mp hu; rfl

/-- a slice value reads as these bytes -/
def RB (w : World) (v : Value) (l : List UInt8) : Prop := RV w v (l.map u8v)
theorem RB.nil (w : World) : RB w (.slice none 0 0) [] := RV.nil w
theorem RB.below {w w' : World} {v : Value} {l : List UInt8} (h : RB w v l) (hb : Below w.heap.size w w') : RB w' v l := RV.below h hb
theorem RB.len {w : World} {v : Value} {l : List UInt8} (h : RB w v l) : l.length ≤ maxLen := by simpa using RV.len h
theorem RB.form {w : World} {v : Value} {l : List UInt8} (h : RB w v l) : ∃ a cap, v = .slice a l.length cap ∧ l.length ≤ cap ∧ cap ≤ maxLen := by
  simpa using RV.form h
theorem RB.out {w : World} {v : Value} {l : List UInt8} (h : RB w v l) (hne : 0 < l.length) :
    ∃ b o cap, v = .slice (some ⟨b, o, none⟩) l.length cap ∧ l.length ≤ cap ∧ cap ≤ maxLen ∧ ∀ (i : Nat) (h : i < l.length), w.cell? ⟨b, o + i, none⟩ = some (u8v l[i]) := by
  obtain ⟨b, o, cap, e, h1, h2, hc⟩ := RV.out h (by simpa using hne)
  exact ⟨b, o, cap, by simpa using e, by simpa using h1, h2, fun i hi => by have := hc i (by simpa using hi); rw [List.getElem_map] at this; exact this⟩
theorem RB.block {w : World} {b n cap t : Nat} {l : List UInt8} {fz : Nat × Nat} (hb : w.heap[b]? = some (.cells (l.map u8v).toArray t fz)) (hn : n = l.length) (hc : n ≤ cap) (hm : cap ≤ maxLen) :
    RB w (.slice (some ⟨b, 0, none⟩) n cap) l :=
  RV.block hb (by simpa using hn) hc hm (by rw [hn]; exact List.take_of_length_le (by simp))

/-- a slice value reads as these numbers -/
def RI (w : World) (v : Value) (l : List Int) : Prop := RV w v (l.map i64v)
theorem RI.nil (w : World) : RI w (.slice none 0 0) [] := RV.nil w
theorem RI.below {w w' : World} {v : Value} {l : List Int} (h : RI w v l) (hb : Below w.heap.size w w') : RI w' v l := RV.below h hb
theorem RI.len {w : World} {v : Value} {l : List Int} (h : RI w v l) : l.length ≤ maxLen := by simpa using RV.len h
theorem RI.form {w : World} {v : Value} {l : List Int} (h : RI w v l) : ∃ a cap, v = .slice a l.length cap ∧ l.length ≤ cap ∧ cap ≤ maxLen := by
  simpa using RV.form h
theorem RI.out {w : World} {v : Value} {l : List Int} (h : RI w v l) (hne : 0 < l.length) :
    ∃ b o cap, v = .slice (some ⟨b, o, none⟩) l.length cap ∧ l.length ≤ cap ∧ cap ≤ maxLen ∧ ∀ (i : Nat) (h : i < l.length), w.cell? ⟨b, o + i, none⟩ = some (i64v l[i]) := by
  obtain ⟨b, o, cap, e, h1, h2, hc⟩ := RV.out h (by simpa using hne)
  exact ⟨b, o, cap, by simpa using e, by simpa using h1, h2, fun i hi => by have := hc i (by simpa using hi); rw [List.getElem_map] at this; exact this⟩

/-- a slice value reads as these rows of bytes -/
def RBB (w : World) (v : Value) (ls : List (List UInt8)) : Prop := ∃ vs : List Value, RV w v vs ∧ vs.length = ls.length ∧ ∀ (i : Nat) (h1 : i < vs.length) (h2 : i < ls.length), RB w vs[i] ls[i]
theorem RBB.nil (w : World) : RBB w (.slice none 0 0) [] := ⟨[], RV.nil w, rfl, fun i h1 => by simp at h1⟩
theorem RBB.below {w w' : World} {v : Value} {ls : List (List UInt8)} (h : RBB w v ls) (hb : Below w.heap.size w w') : RBB w' v ls := by
  obtain ⟨vs, h1, h2, h3⟩ := h
  exact ⟨vs, h1.below hb, h2, fun i h4 h5 => (h3 i h4 h5).below hb⟩
/-- a row of slices in a block known whole -/
theorem RBB.block {w : World} {b n cap t : Nat} {ls : List (List UInt8)} {vs : List Value} {fz : Nat × Nat} (hb : w.heap[b]? = some (.cells vs.toArray t fz)) (hn : n = vs.length) (hc : n ≤ cap) (hm : cap ≤ maxLen)
    (hl : vs.length = ls.length) (hv : ∀ (i : Nat) (h1 : i < vs.length) (h2 : i < ls.length), RB w vs[i] ls[i]) : RBB w (.slice (some ⟨b, 0, none⟩) n cap) ls :=
  ⟨vs, RV.block hb hn hc hm (by simp [hn]), hl, hv⟩
theorem RBB.one {w : World} {b cap t : Nat} {l : List UInt8} {v : Value} {fz : Nat × Nat} (hb : w.heap[b]? = some (.cells #[v] t fz)) (hc : 1 ≤ cap) (hm : cap ≤ maxLen) (hv : RB w v l) : RBB w (.slice (some ⟨b, 0, none⟩) 1 cap) [l] :=
  RBB.block (vs := [v]) hb rfl hc hm rfl fun i h1 _ => by
    obtain rfl : i = 0 := by simpa using h1
    exact hv
/-- rows by their cells -/
theorem RBB.cell1 {w : World} {b : Nat} {v : Value} {l : List UInt8} (c0 : w.cell? ⟨b, 0, none⟩ = some v) (hv : RB w v l) : RBB w (.slice (some ⟨b, 0, none⟩) 1 1) [l] :=
  ⟨[v], RV.mk rfl (Nat.le_refl _) (by unfold maxLen; omega) (fun i hi => by
    obtain rfl : i = 0 := by simpa using hi
    exact c0), rfl, fun i h1 _ => by
    obtain rfl : i = 0 := by simpa using h1
    exact hv⟩
theorem RBB.cell2 {w : World} {b : Nat} {v0 v1 : Value} {l0 l1 : List UInt8} (c0 : w.cell? ⟨b, 0, none⟩ = some v0) (c1 : w.cell? ⟨b, 1, none⟩ = some v1) (h0 : RB w v0 l0) (h1 : RB w v1 l1) : RBB w (.slice (some ⟨b, 0, none⟩) 2 2) [l0, l1] :=
  ⟨[v0, v1], RV.mk rfl (Nat.le_refl _) (by unfold maxLen; omega) (fun i hi => by
    obtain rfl | rfl : i = 0 ∨ i = 1 := by simp at hi; omega
    · exact c0
    · exact c1), rfl, fun i hi _ => by
    obtain rfl | rfl : i = 0 ∨ i = 1 := by simp at hi; omega
    · exact h0
    · exact h1⟩
theorem RBB.cell3 {w : World} {b : Nat} {v0 v1 v2 : Value} {l0 l1 l2 : List UInt8} (c0 : w.cell? ⟨b, 0, none⟩ = some v0) (c1 : w.cell? ⟨b, 1, none⟩ = some v1) (c2 : w.cell? ⟨b, 2, none⟩ = some v2) (h0 : RB w v0 l0) (h1 : RB w v1 l1) (h2 : RB w v2 l2) :
    RBB w (.slice (some ⟨b, 0, none⟩) 3 3) [l0, l1, l2] :=
  ⟨[v0, v1, v2], RV.mk rfl (Nat.le_refl _) (by unfold maxLen; omega) (fun i hi => by
    obtain rfl | rfl | rfl : i = 0 ∨ i = 1 ∨ i = 2 := by simp at hi; omega
    · exact c0
    · exact c1
    · exact c2), rfl, fun i hi _ => by
    obtain rfl | rfl | rfl : i = 0 ∨ i = 1 ∨ i = 2 := by simp at hi; omega
    · exact h0
    · exact h1
    · exact h2⟩
theorem RBB.cell4 {w : World} {b : Nat} {v0 v1 v2 v3 : Value} {l0 l1 l2 l3 : List UInt8} (c0 : w.cell? ⟨b, 0, none⟩ = some v0) (c1 : w.cell? ⟨b, 1, none⟩ = some v1) (c2 : w.cell? ⟨b, 2, none⟩ = some v2) (c3 : w.cell? ⟨b, 3, none⟩ = some v3)
    (h0 : RB w v0 l0) (h1 : RB w v1 l1) (h2 : RB w v2 l2) (h3 : RB w v3 l3) : RBB w (.slice (some ⟨b, 0, none⟩) 4 4) [l0, l1, l2, l3] :=
  ⟨[v0, v1, v2, v3], RV.mk rfl (Nat.le_refl _) (by unfold maxLen; omega) (fun i hi => by
    obtain rfl | rfl | rfl | rfl : i = 0 ∨ i = 1 ∨ i = 2 ∨ i = 3 := by simp at hi; omega
    · exact c0
    · exact c1
    · exact c2
    · exact c3), rfl, fun i hi _ => by
    obtain rfl | rfl | rfl | rfl : i = 0 ∨ i = 1 ∨ i = 2 ∨ i = 3 := by simp at hi; omega
    · exact h0
    · exact h1
    · exact h2
    · exact h3⟩
theorem RBB.two {w : World} {b cap t : Nat} {l m : List UInt8} {v u : Value} {fz : Nat × Nat} (hb : w.heap[b]? = some (.cells #[v, u] t fz)) (hc : 2 ≤ cap) (hm : cap ≤ maxLen) (hv : RB w v l) (hu : RB w u m) : RBB w (.slice (some ⟨b, 0, none⟩) 2 cap) [l, m] :=
  RBB.block (vs := [v, u]) hb rfl hc hm rfl fun i h1 _ => by
    obtain rfl | rfl : i = 0 ∨ i = 1 := by simp at h1; omega
    · exact hv
    · exact hu
theorem RBB.three {w : World} {b cap t : Nat} {l m k : List UInt8} {v u x : Value} {fz : Nat × Nat} (hb : w.heap[b]? = some (.cells #[v, u, x] t fz)) (hc : 3 ≤ cap) (hm : cap ≤ maxLen) (hv : RB w v l) (hu : RB w u m) (hx : RB w x k) : RBB w (.slice (some ⟨b, 0, none⟩) 3 cap) [l, m, k] :=
  RBB.block (vs := [v, u, x]) hb rfl hc hm rfl fun i h1 _ => by
    obtain rfl | rfl | rfl : i = 0 ∨ i = 1 ∨ i = 2 := by simp at h1; omega
    · exact hv
    · exact hu
    · exact hx

/-- one round of an append onto a row of the call's own: nothing below its base has turned -/
theorem below_push {B base : Nat} {w wr w1 : World} {e size n : Nat} {v : Value} {xs : List Value} (hb : Below B w wr) (ho : wr.ownsRow base e size v n xs) (o : Obj) (hg : (wr.alloc o).grownBy w1 v.ownBlock) (hB : B ≤ wr.heap.size) (hbase : B ≤ base) : Below B w w1 :=
  (hb.alloc hB o).grown hg (by simp; omega) fun k hk => by have := (ho.lt k hk).1; omega
theorem below_pushed {B base : Nat} {w wr w1 : World} {e size n : Nat} {v : Value} {xs : List Value} (hb : Below B w wr) (ho : wr.ownsRow base e size v n xs) (hg : wr.grownBy w1 v.ownBlock) (hB : B ≤ wr.heap.size) (hbase : B ≤ base) : Below B w w1 :=
  hb.grown hg hB fun k hk => by have := (ho.lt k hk).1; omega
theorem one_cell {x : Value} (h : x.oneCell' = true) : ∀ u ∈ [x], u.oneCell' = true := fun u hu => by
  have : u = x := by simpa using hu
  subst this; exact h

/-- int(uint64(c) % uint64(n)) -/
theorem pick_eq (c : Int) (n : Nat) (h0 : 0 < n) (h1 : n ≤ 4611686018427387904) : ∃ k : Nat, k < n ∧ wrap64 ((IntKind.u64.wrap c).tmod (n : Int)) = (k : Int) := by
  have hu : 0 ≤ IntKind.u64.wrap c := by rw [IntKind.wrap_u64]; omega
  refine ⟨((IntKind.u64.wrap c) % (n : Int)).toNat, ?_, ?_⟩
  · have := Int.emod_lt_of_pos (IntKind.u64.wrap c) (show (0 : Int) < n by omega)
    have := Int.emod_nonneg (IntKind.u64.wrap c) (show (n : Int) ≠ 0 by omega)
    omega
  · rw [Int.tmod_eq_emod_of_nonneg hu]
    have := Int.emod_lt_of_pos (IntKind.u64.wrap c) (show (0 : Int) < n by omega)
    have := Int.emod_nonneg (IntKind.u64.wrap c) (show (n : Int) ≠ 0 by omega)
    unfold wrap64; omega

theorem u8_mod (q : Nat) : (UInt8.ofNat (q % 256)).toNat = q % 256 := UInt8.toNat_ofNat_of_lt' (Nat.mod_lt _ (by decide))

/-- bytes, laid open -/
theorem RB.shape {w : World} {v : Value} {l : List UInt8} (h : RB w v l) : ∃ (a : Option Addr) (cap : Nat), v = .slice a l.length cap ∧ l.length ≤ cap ∧ cap ≤ 9223372036854775807 ∧
    (l = [] ∨ ∃ b o, a = some ⟨b, o, none⟩ ∧ ∀ (i : Nat) (h : i < l.length), w.cell? ⟨b, o + i, none⟩ = some (u8v l[i])) := by
  obtain ⟨a, cap, e, h1, h2, h0, h3⟩ := h
  refine ⟨a, cap, by simpa using e, by simpa using h1, h2, ?_⟩
  rcases h3 with h3 | ⟨b, o, rfl, hc⟩
  · exact .inl (by simpa using h3)
  · exact .inr ⟨b, o, rfl, fun i hi => by have := hc i (by simpa using hi); rw [List.getElem_map] at this; exact this⟩
theorem RI.shape {w : World} {v : Value} {l : List Int} (h : RI w v l) : ∃ (a : Option Addr) (cap : Nat), v = .slice a l.length cap ∧ l.length ≤ cap ∧ cap ≤ 9223372036854775807 ∧
    (l = [] ∨ ∃ b o, a = some ⟨b, o, none⟩ ∧ ∀ (i : Nat) (h : i < l.length), w.cell? ⟨b, o + i, none⟩ = some (i64v l[i])) := by
  obtain ⟨a, cap, e, h1, h2, h0, h3⟩ := h
  refine ⟨a, cap, by simpa using e, by simpa using h1, h2, ?_⟩
  rcases h3 with h3 | ⟨b, o, rfl, hc⟩
  · exact .inl (by simpa using h3)
  · exact .inr ⟨b, o, rfl, fun i hi => by have := hc i (by simpa using hi); rw [List.getElem_map] at this; exact this⟩
theorem RBB.shape {w : World} {v : Value} {ls : List (List UInt8)} (h : RBB w v ls) : ∃ (a : Option Addr) (cap : Nat), v = .slice a ls.length cap ∧ ls.length ≤ cap ∧ cap ≤ 9223372036854775807 ∧
    (ls = [] ∨ ∃ b o, a = some ⟨b, o, none⟩ ∧ ∀ (i : Nat) (h : i < ls.length), ∃ x, w.cell? ⟨b, o + i, none⟩ = some x ∧ RB w x ls[i]) := by
  obtain ⟨vs, ⟨a, cap, e, h1, h2, _, h3⟩, hl, hr⟩ := h
  refine ⟨a, cap, by rw [e, hl], by omega, h2, ?_⟩
  rcases h3 with h3 | ⟨b, o, rfl, hc⟩
  · subst h3; exact .inl (List.length_eq_zero_iff.mp hl.symm)
  · exact .inr ⟨b, o, rfl, fun i hi => ⟨vs[i]'(by omega), hc i (by omega), hr i (by omega) hi⟩⟩

/-- a byte out of a number that fits -/
theorem u8_of_nat {n : Int} (h0 : 0 ≤ n) (h1 : n ≤ 255) : ∃ c : UInt8, (c.toNat : Int) = n :=
  ⟨UInt8.ofNat n.toNat, by rw [UInt8.toNat_ofNat_of_lt' (by simp; omega)]; omega⟩
theorem lit_u8 {x : Int} (h : (Lit.int .u8 x).wf = true) : 0 ≤ x ∧ x ≤ 255 := by
  have h1 : IntKind.u8.min = 0 := rfl
  have h2 : IntKind.u8.max = 255 := rfl
  simp only [Lit.wf, Bool.and_eq_true, decide_eq_true_eq, h1, h2] at h
  exact h
abbrev I64 (x : Int) : Prop := -9223372036854775808 ≤ x ∧ x ≤ 9223372036854775807
theorem lit_i64 {x : Int} (h : (Lit.int .i64 x).wf = true) : I64 x := by
  have h1 : IntKind.i64.min = -9223372036854775808 := rfl
  have h2 : IntKind.i64.max = 9223372036854775807 := rfl
  simp only [Lit.wf, Bool.and_eq_true, decide_eq_true_eq, h1, h2] at h
  exact h
theorem lit_u32 {x : Int} (h : (Lit.int .u32 x).wf = true) : 0 ≤ x ∧ x ≤ 4294967295 := by
  have h1 : IntKind.u32.min = 0 := rfl
  have h2 : IntKind.u32.max = 4294967295 := rfl
  simp only [Lit.wf, Bool.and_eq_true, decide_eq_true_eq, h1, h2] at h
  exact h
theorem bytes_of_ints {zs : List Int} (h : ∀ z ∈ zs, (Lit.int .u8 z).wf = true) : ∃ l : List UInt8, zs = l.map fun c => (c.toNat : Int) := by
  induction zs with
  | nil => exact ⟨[], rfl⟩
  | cons z zs ih =>
    obtain ⟨l, hl⟩ := ih fun x hx => h x (List.mem_cons_of_mem _ hx)
    obtain ⟨h0, h1⟩ := lit_u8 (h z List.mem_cons_self)
    obtain ⟨c, hc⟩ := u8_of_nat h0 h1
    exact ⟨c :: l, by rw [List.map_cons, hc, ← hl]⟩
end Go.Proofs.Ytogejjbclimjjaa
