/- What a call may turn: a set of old blocks; blocks known whole and what they give; slices that stay. No program in sight. -/
import Derived.Test.YtogejjbclimjjaaKit
import Derived.Laws.Rows
import Derived.ArgAppend
import Derived.OwnWalk
namespace Go.Proofs.Ytogejjbclimjjaa
set_option linter.unusedVariables false
set_option linter.unusedSimpArgs false
open Go.RowKit

abbrev ptrV (p : Nat) : Value := .pointer (some ⟨p, 0, none⟩)
/-- of the old blocks only those of a set may have turned -/
structure Only (S : Nat → Prop) (w w' : World) : Prop where
  os : w'.os = w.os
  tape : w'.tape = w.tape
  output : w'.output = w.output
  size : w.heap.size ≤ w'.heap.size
  block : ∀ b, b < w.heap.size → ¬ S b → w'.heap[b]? = w.heap[b]?

theorem Only.refl (S : Nat → Prop) (w : World) : Only S w w := ⟨rfl, rfl, rfl, Nat.le_refl _, fun _ _ _ => rfl⟩
theorem Only.mono {S S' : Nat → Prop} {w w' : World} (h : Only S w w') (hs : ∀ b, b < w.heap.size → S b → S' b) : Only S' w w' :=
  ⟨h.os, h.tape, h.output, h.size, fun b hb hn => h.block b hb fun x => hn (hs b hb x)⟩
theorem Only.trans {S T : Nat → Prop} {w w1 w2 : World} (h : Only S w w1) (k : Only T w1 w2) (hs : ∀ b, b < w.heap.size → T b → S b) : Only S w w2 :=
  ⟨k.os.trans h.os, k.tape.trans h.tape, k.output.trans h.output, Nat.le_trans h.size k.size, fun b hb hn =>
    (k.block b (Nat.lt_of_lt_of_le hb h.size) fun x => hn (hs b hb x)).trans (h.block b hb hn)⟩
theorem Only.of_below {B : Nat} {w w' : World} (h : Below B w w') : Only (fun b => B ≤ b) w w' :=
  ⟨h.os, h.tape, h.output, h.size, fun b _ hn => h.block b (by omega)⟩
theorem Only.below {S : Nat → Prop} {B : Nat} {w w' : World} (h : Only S w w') (hB : B ≤ w.heap.size) (hs : ∀ b, b < B → ¬ S b) : Below B w w' :=
  ⟨h.os, h.tape, h.output, h.size, fun b hb => h.block b (by omega) (hs b hb)⟩
theorem Only.new {w : World} {w' : World} (h : Below w.heap.size w w') (S : Nat → Prop) : Only S w w' :=
  ⟨h.os, h.tape, h.output, h.size, fun b hb _ => h.block b hb⟩
theorem Only.old {S : Nat → Prop} {w w' : World} (h : Only S w w') (hs : ∀ b, b < w.heap.size → ¬ S b) : Below w.heap.size w w' := h.below (Nat.le_refl _) hs
theorem Only.of_grown {w w' : World} {row : Option Nat} (h : w.grownBy w' row) : Only (fun b => row = some b) w w' :=
  ⟨h.os, h.tape, h.output, h.size, fun b hb hn => h.block b hb fun e => hn e.symm⟩
theorem Only.of_alloc (S : Nat → Prop) (w : World) (o : Obj) : Only S w (w.alloc o) := ⟨rfl, rfl, rfl, by simp, fun b hb _ => Below.heap_alloc _ _ _ hb⟩
theorem Only.of_drew (S : Nat → Prop) (w : World) : Only S w w.drew := ⟨rfl, rfl, rfl, Nat.le_refl _, fun _ _ _ => rfl⟩
theorem Only.of_draws (S : Nat → Prop) (w : World) (n : Nat) : Only S w (w.drewN n) := ⟨rfl, rfl, rfl, Nat.le_refl _, fun _ _ _ => rfl⟩
theorem Only.of_set (w : World) (a : Addr) (u : Value) : Only (fun b => b = a.block) w (w.setCell a u) :=
  ⟨rfl, rfl, rfl, by simp [World.setCell], fun b _ hn => Below.heap_setCell _ _ _ _ hn⟩
theorem Only.alloc {S : Nat → Prop} {w0 w : World} (h : Only S w0 w) (o : Obj) : Only S w0 (w.alloc o) := h.trans (Only.of_alloc (fun _ => False) w o) fun _ _ => False.elim
theorem Only.drew {S : Nat → Prop} {w0 w : World} (h : Only S w0 w) : Only S w0 w.drew := h.trans (Only.of_drew (fun _ => False) w) fun _ _ => False.elim
theorem Only.set {S : Nat → Prop} {w0 w : World} (h : Only S w0 w) (a : Addr) (u : Value) (hs : a.block < w0.heap.size → S a.block) : Only S w0 (w.setCell a u) :=
  h.trans (Only.of_set w a u) fun b hb e => by subst e; exact hs hb

/-- an old block -/
theorem Only.at {S : Nat → Prop} {w w' : World} (h : Only S w w') {b : Nat} {o : Obj} (hb : w.heap[b]? = some o) (hn : ¬ S b) : w'.heap[b]? = some o := by
  rw [h.block b (heap_lt hb) hn]; exact hb
theorem Only.cell {S : Nat → Prop} {w w' : World} (h : Only S w w') {b o : Nat} {x : Value} (hc : w.cell? ⟨b, o, none⟩ = some x) (hn : ¬ S b) : w'.cell? ⟨b, o, none⟩ = some x := by
  rw [World.cell?_of_block (w := w) (h.block b (cell_lt hc) hn)]; exact hc

/-- a cell, and a mark, of a block known whole -/
theorem cell_of {w : World} {b t o : Nat} {cs : Array Value} {fz : Nat × Nat} (h : w.heap[b]? = some (.cells cs t fz)) : w.cell? ⟨b, o, none⟩ = cs[o]? := by
  simp only [World.cell?, h]; simp
theorem froz_of {w : World} {b t o : Nat} {cs : Array Value} (h : w.heap[b]? = some (.cells cs t (0, 0))) : w.frozen? ⟨b, o, none⟩ = false := frozen_of_row w b o cs t h

/-- a block one of whose cells was written -/
theorem set_at {w : World} {b o t : Nat} {cs : Array Value} {fz : Nat × Nat} (h : w.heap[b]? = some (.cells cs t fz)) (u : Value) : (w.setCell ⟨b, o, none⟩ u).heap[b]? = some (.cells (cs.setIfInBounds o u) t fz) := by
  simp only [World.setCell, Array.getElem?_modify, if_pos, h]
  simp
theorem set_other {w : World} {b : Nat} {x : Obj} {a : Addr} (u : Value) (h : w.heap[b]? = some x) (hn : b ≠ a.block) : (w.setCell a u).heap[b]? = some x := by
  rw [Below.heap_setCell _ _ _ _ hn]; exact h
theorem size_set (w : World) (a : Addr) (u : Value) : (w.setCell a u).heap.size = w.heap.size := by simp [World.setCell]

/-- cells that stay -/
theorem RV.only {S : Nat → Prop} {w w' : World} {v : Value} {xs : List Value} (h : RV w v xs) (hO : Only S w w') (hS : ∀ b, b < w.heap.size → S b → ∀ o x, w.cell? ⟨b, o, none⟩ = some x → x ∉ xs) : RV w' v xs :=
  h.keep fun b o x hc hx => hO.cell hc fun hs => hS b (cell_lt hc) hs o x hc hx
/-- a block holds no byte -/
def NoByte (w : World) (b : Nat) : Prop := ∀ (o : Nat) (c : UInt8), w.cell? ⟨b, o, none⟩ ≠ some (u8v c)
theorem RB.only {S : Nat → Prop} {w w' : World} {v : Value} {l : List UInt8} (h : RB w v l) (hO : Only S w w') (hS : ∀ b, b < w.heap.size → S b → NoByte w b) : RB w' v l :=
  RV.only h hO fun b hb hs o x hc hx => by
    obtain ⟨c, _, rfl⟩ := List.mem_map.mp hx
    exact hS b hb hs o c hc
theorem noByte_of {w : World} {b t : Nat} {cs : Array Value} {fz : Nat × Nat} (h : w.heap[b]? = some (.cells cs t fz)) (hn : ∀ (o : Nat) (c : UInt8), cs[o]? ≠ some (u8v c)) : NoByte w b := fun o c => by
  rw [cell_of h]; exact hn o c
/-- a value that is no byte -/
def NB (v : Value) : Prop := ∀ c : UInt8, v ≠ u8v c
theorem nb1 {x : Value} (hx : NB x) : ∀ (o : Nat) (c : UInt8), (#[x] : Array Value)[o]? ≠ some (u8v c) := fun o c h => by
  match o with
  | 0 => simp at h; exact hx c h
  | o + 1 => simp at h
theorem nb2 {x y : Value} (hx : NB x) (hy : NB y) : ∀ (o : Nat) (c : UInt8), (#[x, y] : Array Value)[o]? ≠ some (u8v c) := fun o c h => by
  match o with
  | 0 => simp at h; exact hx c h
  | 1 => simp at h; exact hy c h
  | o + 2 => simp at h
theorem nb_slice (a : Option Addr) (n c : Nat) : NB (.slice a n c) := fun _ => by simp
theorem nb_i64 (n : Int) : NB (.int .i64 n) := fun _ => by simp
theorem nb_bool (b : Bool) : NB (.bool b) := fun _ => by simp

/-- an owned row, where other blocks turn -/
theorem own_only {S : Nat → Prop} {w w' : World} {base e size n : Nat} {v : Value} {xs : List Value} (h : w.ownsRow base e size v n xs) (hO : Only S w w') (hS : ∀ b, v.ownBlock = some b → ¬ S b) : w'.ownsRow base e size v n xs := by
  refine ⟨h.1, ?_⟩
  rcases h.2 with hn | ⟨g, cap, cur, rfl, hb, hgg, rest⟩
  · exact .inl hn
  · exact .inr ⟨g, cap, cur, rfl, hb, hO.at hgg (hS g rfl), rest⟩

/-- a call out of a world that parts from one at hand by its draws alone -/
theorem below_step {B : Nat} {W w X w' : World} (h : Below B W w) (hb : Below X.heap.size X w') (h1 : X.os = w.os) (h2 : X.tape = w.tape) (h3 : X.output = w.output) (h4 : X.heap = w.heap) (hB : B ≤ w.heap.size) : Below B W w' :=
  ⟨hb.os.trans (h1.trans h.os), hb.tape.trans (h2.trans h.tape), hb.output.trans (h3.trans h.output), by have := h.size; have := hb.size; rw [h4] at this; omega, fun k hk => by
    rw [hb.block k (by rw [h4]; omega), h4]; exact h.block k hk⟩
theorem cells_at {w : World} {b t : Nat} {cs : Array Value} {fz : Nat × Nat} (h : w.heap[b]? = some (.cells cs t fz)) (j : Nat) (u : Value) (hj : cs[j]? = some u) : w.cell? ⟨b, j, none⟩ = some u := by
  simp only [World.cell?, h]; simpa using hj
theorem froz_at {w : World} {b t : Nat} {cs : Array Value} (h : w.heap[b]? = some (.cells cs t (0, 0))) (j : Nat) : w.frozen? ⟨b, j, none⟩ = false := frozen_of_row w b j cs t h
theorem heap_keep {w w' : World} {b : Nat} {o : Obj} (hb : Below w.heap.size w w') (h : w.heap[b]? = some o) : w'.heap[b]? = some o := by
  rw [hb.block b (heap_lt h)]; exact h

section
variable {P : Program} {ops : Array Oper} {rest : List Oper} {a : Act} {Q : Exit → Act → World → Prop}
/-- behind a store into a block known whole: the world under a new name -/
theorem wpList_set {w : World} {b o t : Nat} {cs : Array Value} {u : Value} (h : w.heap[b]? = some (.cells cs t (0, 0)))
    (k : ∀ w', w'.heap[b]? = some (.cells (cs.setIfInBounds o u) t (0, 0)) → w'.heap.size = w.heap.size → Only (fun x => x = b) w w' → wpList P ops Q rest a w') : wpList P ops Q rest a (w.setCell ⟨b, o, none⟩ u) :=
  k _ (set_at h u) (size_set _ _ _) (Only.of_set w ⟨b, o, none⟩ u)
/-- behind a new block: the world under a new name -/
theorem wpList_new {w : World} {o : Obj}
    (k : ∀ w', w'.heap[w.heap.size]? = some o → w'.heap.size = w.heap.size + 1 → Below w.heap.size w w' → wpList P ops Q rest a w') : wpList P ops Q rest a (w.alloc o) :=
  k _ (heap_new w o) (by simp) ((Below.refl _ _).alloc (Nat.le_refl _) o)
end

section
variable {P : Program} {c : Code} {a : Act} {Q : Exit → Act → World → Prop}
/-- a piece of code in a world that has just got a new block: the world under a new name -/
theorem code_new {w : World} {o : Obj} (k : ∀ w', w'.heap[w.heap.size]? = some o → w'.heap.size = w.heap.size + 1 → Below w.heap.size w w' → Code.wp P c Q a w') : Code.wp P c Q a (w.alloc o) :=
  k _ (heap_new w o) (by simp) ((Below.refl _ _).alloc (Nat.le_refl _) o)
theorem code_drew {w : World} (k : ∀ w', w'.heap.size = w.heap.size → Below w.heap.size w w' → Code.wp P c Q a w') : Code.wp P c Q a w.drew := k _ rfl (Below.refl _ _).drew
end

section
variable {P : Program} {fn : Func} {p u x : Tmp} {ty : TypeId} {tmps : Array Value} {w : World} {g : Nat} {t : TypeId} {cs : Array Value} {fr : Nat × Nat} {d : TypeDesc}
/-- results, the first of which is a struct that lies in memory -/
theorem res_c (h : fn.results = #[.cell p ty]) (hp : tmps.getD p undef = .pointer (some ⟨g, 0, none⟩)) (hg : w.heap[g]? = some (.cells cs t fr))
    (hu : P.underlying ty = some d) (hd : (match d with | .struct _ | .array _ _ => true | _ => false) = true) (hi : (P.info? ty).map (·.size) = some cs.size) :
    (results fn tmps).run P w = .ok (.agg cs) w := by
  have hp' : tmps[p]?.getD undef = .pointer (some ⟨g, 0, none⟩) := by simpa using hp
  simp [results, h, hp', asAddr, run_loadVar_row w g t ty cs fr d hg hu hd hi]
theorem res_ct (h : fn.results = #[.cell p ty, .tmp u]) (hp : tmps.getD p undef = .pointer (some ⟨g, 0, none⟩)) (hg : w.heap[g]? = some (.cells cs t fr))
    (hu : P.underlying ty = some d) (hd : (match d with | .struct _ | .array _ _ => true | _ => false) = true) (hi : (P.info? ty).map (·.size) = some cs.size) :
    (results fn tmps).run P w = .ok (.tuple #[.agg cs, tmps.getD u undef]) w := by
  have hp' : tmps[p]?.getD undef = .pointer (some ⟨g, 0, none⟩) := by simpa using hp
  simp [results, h, hp', asAddr, run_loadVar_row w g t ty cs fr d hg hu hd hi]
theorem res_ctt (h : fn.results = #[.cell p ty, .tmp u, .tmp x]) (hp : tmps.getD p undef = .pointer (some ⟨g, 0, none⟩)) (hg : w.heap[g]? = some (.cells cs t fr))
    (hu : P.underlying ty = some d) (hd : (match d with | .struct _ | .array _ _ => true | _ => false) = true) (hi : (P.info? ty).map (·.size) = some cs.size) :
    (results fn tmps).run P w = .ok (.tuple #[.agg cs, tmps.getD u undef, tmps.getD x undef]) w := by
  have hp' : tmps[p]?.getD undef = .pointer (some ⟨g, 0, none⟩) := by simpa using hp
  simp [results, h, hp', asAddr, run_loadVar_row w g t ty cs fr d hg hu hd hi]
end

theorem own_mono {w : World} {base base' e size n : Nat} {v : Value} {xs : List Value} (h : w.ownsRow base' e size v n xs) (hb : base ≤ base') : w.ownsRow base e size v n xs :=
  ⟨h.1, h.2.imp_right fun ⟨g, cap, cur, hv, hg, r⟩ => ⟨g, cap, cur, hv, by omega, r⟩⟩
/-- append of what a slice reads as, onto a row of the call's own: which row it is then -/
theorem wpList_append_row {P : Program} {w : World} {ops : Array Oper} {rest : List Oper} {o : Oper} {a : Act} {Q : Exit → Act → World → Prop} (hgd : o.guard = none) (s x : Operand) (t : TypeId)
    (ho : o.op = .call { callee := .builtin .append, args := #[s, x], argTypes := #[t, t] })
    (base : Nat) (e : TypeId) (i : TypeInfo) (z : Value) (bytes : Nat) (ht : P.underlying t = some (.slice e)) (hi : P.info? e = some i) (hz : i.zero = some z)
    (hsize : i.size = 1) (hby : i.bytes = bytes) (hzs : z.cells.size = 1)
    (v : Value) (n : Nat) (xs : List Value) (hs : a.eval s = v) (hown : w.ownsRow base e 1 v n xs)
    (y : Value) (news : List Value) (hx : a.eval x = y) (hy : RV w y news) (h1 : ∀ u ∈ news, u.oneCell' = true)
    (h63 : n + news.length ≤ maxLen) (hbytes : (n + news.length) * bytes ≤ 140737488355328) (hbase : base ≤ w.heap.size)
    (h : ∀ v' w', w'.ownsRow base e 1 v' (n + news.length) (xs ++ news) → w.grownBy w' v.ownBlock → (∀ b, v'.ownBlock = some b → v.ownBlock = some b ∨ w.heap.size ≤ b) → wpList P ops Q rest (a.put o.dst v') w') : wpList P ops Q (o :: rest) a w := by
  obtain ⟨ya, cap, rfl, c1, c2, c3, c4⟩ := hy
  cases ya with
  | none =>
    have hc := c3 rfl
    subst hc
    have hn : news = [] := List.length_eq_zero_iff.mp (by omega)
    subst hn
    refine wpList_append_own_none hgd s x t ho base e i 1 ht hi v n xs hs hown (by rw [hx]; rfl) ?_
    exact h v w (by simpa using hown) ⟨rfl, rfl, rfl, Nat.le_refl _, fun _ _ _ => rfl⟩ (fun _ => .inl)
  | some ad =>
    have hcell : ∀ j u, news[j]? = some u → w.cell? (ad.add j) = some u := fun j u hu => by
      rcases c4 with c4 | ⟨b, o', e', hc⟩
      · subst c4; simp at hu
      · simp only [Option.some.injEq] at e'
        subst e'
        obtain ⟨hj, rfl⟩ := List.getElem?_eq_some_iff.mp hu
        rw [add_plain]; exact hc j hj
    rcases hown.2 with ⟨rfl, rfl⟩ | ⟨g, capv, cur, rfl, hg, hgg, hnc, hcm, hcs, htk⟩
    · have hxs : xs = [] := List.length_eq_zero_iff.mp (by rw [hown.1])
      subst hxs
      refine wpList_append_own w hgd s x t ho w.heap.size e i z 1 bytes ht hi hz hsize hby hzs (by decide) (.slice none 0 0) 0 [] hs (World.ownsRow_nil _ _ _ _) ad news.length cap news hx (by rw [Nat.mul_one]) hcell h1 h63 hbytes (Nat.le_refl _) ?_
      intro v' w' ho' hg' _
      exact h v' w' (own_mono ho' hbase) hg' fun b hb => .inr (ho'.lt b hb).1
    · by_cases hf : n + news.length ≤ capv
      · refine wpList_append_fits w hgd s x t ho base e i 1 ht hi hsize g n capv xs hs hown ad news.length cap news hx (by rw [Nat.mul_one]) hcell h1 hf ?_
        intro w' ho' hg'
        exact h _ w' ho' hg' fun _ => .inl
      · refine wpList_append_grows w hgd s x t ho e i z 1 bytes ht hi hz hsize hby hzs (by decide) (some ⟨g, 0, none⟩) n capv xs hs (fun h => by cases h) (by rw [hown.1]) (fun b hb j u hu => ?_) ad news.length cap news hx (by rw [Nat.mul_one]) hcell h1 (by omega) h63 hbytes ?_
        · simp only [Option.some.injEq] at hb
          subst hb
          exact hown.cells rfl j u hu
        · intro v' w' ho' hg'
          refine h v' w' (own_mono ho' hbase) ⟨hg'.os, hg'.tape, hg'.output, hg'.size, fun k hk _ => hg'.block k hk (by simp)⟩ fun b hb => .inr (ho'.lt b hb).1
end Go.Proofs.Ytogejjbclimjjaa
