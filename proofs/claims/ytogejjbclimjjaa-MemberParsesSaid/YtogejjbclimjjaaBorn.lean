/- A region that draws its order, walked once in an order of one's own, in which new blocks (a slice's row, a variable) may be born at any time: soft operations, births (told ahead, taken where they are first needed), hard operations one behind the other. No program in sight. -/
import Derived.Test.YtogejjbclimjjaaMix
import Derived.Test.YtogejjbclimjjaaOnly
namespace Go.Proofs.Ytogejjbclimjjaa
set_option linter.unusedVariables false
set_option linter.unusedSimpArgs false
open Go.RowKit

inductive It where
  | soft (i : Nat)
  | ann (i : Nat)
  | take (i : Nat)
  | hard (i : Nat)
  deriving DecidableEq
def It.op : It → Option Nat
  | .ann _ => none
  | .soft i => some i
  | .take i => some i
  | .hard i => some i
def It.told : It → Option Nat
  | .ann i => some i
  | _ => none

abbrev Anns := List (Nat × (Nat → Value) × Obj)
def look : Anns → Nat → Option ((Nat → Value) × Obj)
  | [], _ => none
  | x :: X, i => if x.1 = i then some x.2 else look X i
/-- what stands at a stage: of which old blocks it may speak and turn them, and the world -/
abbrev Asn := (Nat → Prop) → World → Prop
structure Good (L : World → Prop) (A : Asn) : Prop where
  grow : ∀ G w o, A G w → A G (w.alloc o)
  load : ∀ G w, A G w → L w
  old : ∀ G w b, A G w → G b → b < w.heap.size

/-- is a birth to be taken yet? -/
def hasTake : List It → Bool
  | [] => false
  | .take _ :: _ => true
  | _ :: is => hasTake is
theorem hasTake_of {i : Nat} : ∀ {is : List It}, It.take i ∈ is → hasTake is = true
  | [], h => by cases h
  | .take _ :: _, _ => rfl
  | .soft j :: is, h => hasTake_of (is := is) (by simpa using h)
  | .hard j :: is, h => hasTake_of (is := is) (by simpa using h)
  | .ann j :: is, h => hasTake_of (is := is) (by simpa using h)

section
variable {P : Program} {ops : Array Oper}

def wpX (P : Program) (ops : Array Oper) (Q : Exit → Act → World → Prop) (L : World → Prop) (F : List (Bool × Bool)) : List It → Anns → Asn → Act → Prop
  | [], _, A, a => ∀ G w, A G w → Q .normal a w
  | .soft i :: is, X, A, a => ∃ o v, ops[i]? = some o ∧ softAt P ops o (cls (F.getD i (false, false)).2 L) v a ∧ wpX P ops Q L F is X A (a.put o.dst v)
  | .ann i :: is, X, A, a => ∃ o f ob, ops[i]? = some o ∧ (∀ w, L w → (execOp a.eval o).run P w = .ok (.value (f w.heap.size)) (w.alloc ob)) ∧ wpX P ops Q L F is ((i, f, ob) :: X) A a
  | .take i :: is, X, A, a => ∃ o f ob, ops[i]? = some o ∧ look X i = some (f, ob) ∧ ∀ b, wpX P ops Q L F is X (fun G w => A G w ∧ w.heap[b]? = some ob ∧ ¬ G b) (a.put o.dst (f b))
  | .hard i :: is, X, A, a => ∃ o, ops[i]? = some o ∧ (if Region.wanted o (yielded ops a.tmps) then
      ∀ G w, A G w → o.wp P a w (fun a' w' => a'.defers = a.defers ∧ ∃ (A' : Asn) (G' : Nat → Prop), Good L A' ∧ A' G' w' ∧ (hasTake is = true → Only G w w') ∧ (∀ b, G' b → G b ∨ w.heap.size ≤ b) ∧ wpX P ops Q L F is X A' a') (outQ Q) ∨ (o.asks P a w ∧ LetsOut Q)
    else wpX P ops Q L F is X A (a.put o.dst undef))

def apart2 (ops : Array Oper) (i j : Nat) : Bool := match ops[i]?, ops[j]? with
  | some x, some y => Oper.apart ops x y && Oper.apart ops y x
  | _, _ => false
def bw (B : List Nat) (j i : Nat) : Bool := (B.getD j 0).testBit i
def pairB (ops : Array Oper) (B : List Nat) : It → It → Bool
  | .hard h, .soft j => bw B j h
  | .hard h, .hard j => bw B j h
  | .hard h, .ann j => bw B j h
  | .take h, .soft j => bw B j h
  | .take h, .hard j => bw B j h
  | .take h, .ann j => bw B j h
  | .soft d, .soft j => bw B j d || apart2 ops d j
  | .soft d, .hard j => bw B j d || apart2 ops d j
  | .soft d, .take j => bw B j d || apart2 ops d j
  | .soft d, .ann j => bw B j d || apart2 ops d j
  | .ann i, .hard j => bw B j i || apart2 ops i j
  | .ann i, .take j => i == j || bw B j i || apart2 ops i j
  | .hard j, .take e => bw B e j || apart2 ops j e
  | .take e, .take e' => apart2 ops e e'
  | .ann _, .soft _ => true
  | .ann _, .ann _ => true
def pairsB (ops : Array Oper) (B : List Nat) : List It → Bool
  | [] => true
  | x :: l => l.all (pairB ops B x) && pairsB ops B l
/-- the soft ones between a birth that is told and its taking do not touch it -/
def softsB (ops : Array Oper) (i : Nat) : List It → Bool
  | [] => true
  | .take k :: l => k == i || softsB ops i l
  | .soft j :: l => apart2 ops i j && softsB ops i l
  | _ :: l => softsB ops i l
def annsB (ops : Array Oper) : List It → Bool
  | [] => true
  | .ann i :: l => softsB ops i l && annsB ops l
  | _ :: l => annsB ops l

def okX (ops : Array Oper) (its : List It) (B : List Nat) : Bool :=
  Region.noSelect ops && its.all (fun x => match x with
    | .soft i => decide (i < ops.size)
    | .hard i => decide (i < ops.size)
    | .take i => decide (i < ops.size) && its.contains (.ann i)
    | .ann i => its.contains (.take i) && (match ops[i]? with | some o => o.guard.isNone | none => false)) &&
  ((List.range ops.size).all fun i => its.contains (.soft i) || its.contains (.hard i) || its.contains (.take i)) &&
  decide (its.filterMap It.op).Nodup && decide (its.filterMap It.told).Nodup && pairsB ops B its && annsB ops its &&
  ((List.range ops.size).all fun j => match ops[j]? with
    | none => true
    | some oj => (waits oj).all (fun k => decide (k < j)) &&
      (List.range ops.size).all fun i => !(B.getD j 0).testBit i || (waits oj).contains i || (waits oj).any fun k => (B.getD k 0).testBit i)

structure OkX (ops : Array Oper) (its : List It) (B : List Nat) : Prop where
  sel : Region.noSelect ops = true
  bound : ∀ x ∈ its, ∀ i, x.op = some i → i < ops.size
  told : ∀ i, .take i ∈ its → .ann i ∈ its
  taken : ∀ i, .ann i ∈ its → .take i ∈ its ∧ ∃ o, ops[i]? = some o ∧ o.guard = none
  all : ∀ i, i < ops.size → .soft i ∈ its ∨ .hard i ∈ its ∨ .take i ∈ its
  nodup : (its.filterMap It.op).Nodup
  nodupA : (its.filterMap It.told).Nodup
  pairs : its.Pairwise fun x y => pairB ops B x y = true
  anns : annsB ops its = true
  up : ∀ j oj, ops[j]? = some oj → ∀ k ∈ waits oj, k < j
  wait : ∀ j oj, ops[j]? = some oj → ∀ i, i < ops.size → (B.getD j 0).testBit i = true → i ∈ waits oj ∨ ∃ k ∈ waits oj, (B.getD k 0).testBit i = true

theorem pairsB_spec {B : List Nat} : ∀ {its : List It}, pairsB ops B its = true → its.Pairwise fun x y => pairB ops B x y = true
  | [], _ => List.Pairwise.nil
  | x :: l, h => by
    simp only [pairsB, Bool.and_eq_true, List.all_eq_true] at h
    exact List.Pairwise.cons h.1 (pairsB_spec h.2)

theorem okX_spec {its : List It} {B : List Nat} (h : okX ops its B = true) : OkX ops its B := by
  simp only [okX, Bool.and_eq_true, List.all_eq_true, List.mem_range, decide_eq_true_eq, Bool.or_eq_true] at h
  obtain ⟨⟨⟨⟨⟨⟨⟨h1, h2⟩, h3⟩, h4⟩, h5⟩, h6⟩, h7⟩, h8⟩ := h
  have hj : ∀ j oj, ops[j]? = some oj → j < ops.size := fun j oj h => (Array.getElem?_eq_some_iff.1 h).1
  refine ⟨h1, fun x hx i hi => ?_, fun i hi => ?_, fun i hi => ?_, fun i hi => ?_, h4, h5, pairsB_spec h6, h7, fun j oj ho k hk => ?_, fun j oj ho i hi hb => ?_⟩
  · have := h2 x hx
    cases x with
    | soft k => simp only [It.op, Option.some.injEq] at hi; subst hi; simpa using this
    | hard k => simp only [It.op, Option.some.injEq] at hi; subst hi; simpa using this
    | take k => simp only [It.op, Option.some.injEq] at hi; subst hi; simp at this; exact this.1
    | ann k => cases hi
  · have := h2 _ hi
    simp at this; exact this.2
  · have := h2 _ hi
    simp only [Bool.and_eq_true, List.contains_iff_mem] at this
    refine ⟨this.1, ?_⟩
    cases ho : ops[i]? with
    | none => rw [ho] at this; simp at this
    | some o => rw [ho] at this; exact ⟨o, rfl, by simpa using this.2⟩
  · have := h3 i hi
    simp only [List.contains_iff_mem] at this
    rcases this with (h | h) | h
    · exact .inl h
    · exact .inr (.inl h)
    · exact .inr (.inr h)
  · have := h8 j (hj j oj ho)
    rw [ho] at this
    simp only [Bool.and_eq_true, List.all_eq_true, decide_eq_true_eq] at this
    exact this.1 k hk
  · have := h8 j (hj j oj ho)
    rw [ho] at this
    simp only [Bool.and_eq_true, List.all_eq_true, List.mem_range] at this
    have := this.2 i hi
    simp only [Bool.or_eq_true, Bool.not_eq_true', hb, Bool.true_eq_false, false_or, List.contains_iff_mem, List.any_eq_true] at this
    exact this

theorem waitedX {its : List It} {B : List Nat} (ok : OkX ops its B) {listed : Array Bool}
    (closed : ∀ j oj, ops[j]? = some oj → listed.getD j false = true → ∀ k ∈ waits oj, listed.getD k false = true) :
    ∀ (m j : Nat), j ≤ m → ∀ oj, ops[j]? = some oj → (∀ k ∈ waits oj, listed.getD k false = true) → ∀ i, i < ops.size → bw B j i = true → listed.getD i false = true := by
  intro m
  induction m with
  | zero =>
    intro j hj oj ho hw i hi hb
    rcases ok.wait j oj ho i hi hb with h | ⟨k, hk, _⟩
    · exact hw i h
    · have := ok.up j oj ho k hk; omega
  | succ m ih =>
    intro j hj oj ho hw i hi hb
    rcases ok.wait j oj ho i hi hb with h | ⟨k, hk, hb'⟩
    · exact hw i h
    · have hkj := ok.up j oj ho k hk
      have hks : k < ops.size := by have := (Array.getElem?_eq_some_iff.1 ho).1; omega
      obtain ⟨ok', hok'⟩ : ∃ o, ops[k]? = some o := ⟨_, Array.getElem?_eq_getElem hks⟩
      exact ih k (by omega) ok' hok' (fun x hx => closed k ok' hok' (hw k hk) x hx) i hi hb'

theorem apart2_spec {i j : Nat} {x y : Oper} (h : apart2 ops i j = true) (hx : ops[i]? = some x) (hy : ops[j]? = some y) : Oper.apart ops x y = true ∧ Oper.apart ops y x = true := by
  simpa [apart2, hx, hy] using h
theorem apart2_symm {i j : Nat} (h : apart2 ops i j = true) : apart2 ops j i = true := by
  cases hx : ops[i]? with
  | none => simp [apart2, hx] at h
  | some x => cases hy : ops[j]? with
    | none => simp [apart2, hx, hy] at h
    | some y => have := apart2_spec h hx hy; simp [apart2, hx, hy, this.1, this.2]

abbrev tb (ops : Array Oper) : Nat → Option Oper := fun i => ops[i]?
theorem apartAll_of {D : List (Nat × Value)} {j : Nat} {o : Oper} (ho : ops[j]? = some o) (h : ∀ d ∈ D, apart2 ops d.1 j = true) : ApartAll ops (tb ops) D o := fun d hd ok hok => (apart2_spec (h d hd) hok ho).1

theorem putAll_remove {D1 D2 : List (Nat × Value)} {j : Nat} {v : Value} {oj : Oper} (hoj : ops[j]? = some oj) (hap : ApartAll ops (tb ops) D1 oj) (a : Act) : putAll (tb ops) (D1 ++ (j, v) :: D2) a = putAll (tb ops) (D1 ++ D2) (a.put oj.dst v) := by
  induction D1 generalizing a with
  | nil =>
    show putAll (tb ops) ((j, v) :: D2) a = _
    rw [putAll_cons]
    have : (tb ops j).bind (·.dst) = oj.dst := by show (ops[j]?).bind _ = _; rw [hoj]; rfl
    rw [this]; rfl
  | cons d D1 ih =>
    show putAll (tb ops) (d :: (D1 ++ (j, v) :: D2)) a = putAll (tb ops) (d :: (D1 ++ D2)) _
    rw [putAll_cons, putAll_cons, ih (fun x hx => hap x (List.mem_cons_of_mem _ hx))]
    congr 1
    exact Act.put_comm a d.2 v (dst_apart (hap d List.mem_cons_self)).2

/-- where a run stands against the text -/
structure XI (P : Program) (ops : Array Oper) (Q : Exit → Act → World → Prop) (L : World → Prop) (F : List (Bool × Bool)) (its : List It) (B : List Nat) (pre is : List It) (X : Anns) (A : Asn) (G : Nat → Prop) (D : List (Nat × Value)) (E : List (Nat × Value × Nat)) (a0 : Act) (listed : Array Bool) (a : Act) (w : World) : Prop where
  whole : its = pre ++ is
  size : listed.size = ops.size
  closed : ∀ j oj, ops[j]? = some oj → listed.getD j false = true → ∀ k ∈ waits oj, listed.getD k false = true
  act : a = putAll (tb ops) (E.map fun e => (e.1, e.2.1)) a0
  text : wpX P ops Q L F is X A (putAll (tb ops) D a0)
  dpre : ∀ d ∈ D, It.soft d.1 ∈ pre ∧ listed.getD d.1 false = false
  dord : D.Pairwise fun x y => pairB ops B (.soft x.1) (.soft y.1) = true
  dnod : (D.map (·.1)).Nodup
  done : ∀ i, It.soft i ∈ pre → listed.getD i false = true ∨ ∃ v, (i, v) ∈ D
  doneH : ∀ i, It.hard i ∈ pre ∨ It.take i ∈ pre → listed.getD i false = true
  fresh : ∀ i, It.soft i ∈ is ∨ It.hard i ∈ is → listed.getD i false = false
  ahead : ∀ i, It.take i ∈ is → listed.getD i false = true → ∃ e ∈ E, e.1 = i
  edo : ∀ e ∈ E, It.take e.1 ∈ is ∧ listed.getD e.1 false = true ∧ It.ann e.1 ∈ pre ∧ ∃ f ob, look X e.1 = some (f, ob) ∧ e.2.1 = f e.2.2 ∧ w.heap[e.2.2]? = some ob ∧ ¬ G e.2.2
  enod : (E.map (·.1)).Nodup
  yields : PendOk P ops (tb ops) F L D a0
  anns : ∀ i, It.ann i ∈ pre → listed.getD i false = false → ∃ o f ob, ops[i]? = some o ∧ look X i = some (f, ob) ∧ (∀ w, L w → (execOp (putAll (tb ops) D a0).eval o).run P w = .ok (.value (f w.heap.size)) (w.alloc ob)) ∧ ∀ d ∈ D, (bw B i d.1 || apart2 ops d.1 i) = true
  good : Good L A
  cls : A G w

section
variable {Q : Exit → Act → World → Prop} {L : World → Prop} {F : List (Bool × Bool)} {its : List It} {B : List Nat} {pre is : List It} {X : Anns} {A : Asn} {G : Nat → Prop} {D : List (Nat × Value)} {E : List (Nat × Value × Nat)} {a0 : Act} {listed : Array Bool} {a : Act} {w : World}

theorem hselX (ok : OkX ops its B) : ∀ (j : Nat) (o : Oper) cs b, tb ops j = some o → o.op ≠ .select cs b := fun j o cs b h => Region.noSelect_spec ok.sel j o cs b h
theorem pair_of (ok : OkX ops its B) (hw : its = pre ++ is) {x y : It} (hx : x ∈ pre) (hy : y ∈ is) : pairB ops B x y = true := by
  have := ok.pairs
  rw [hw] at this
  exact (List.pairwise_append.1 this).2.2 x hx y hy
theorem pair_head {x : It} (ok : OkX ops its B) (hw : its = pre ++ x :: is) {y : It} (hy : y ∈ is) : pairB ops B x y = true := by
  have := ok.pairs
  rw [hw] at this
  exact List.rel_of_pairwise_cons (List.pairwise_append.1 this).2.1 hy
theorem op_once (ok : OkX ops its B) (hw : its = pre ++ is) {x y : It} {i : Nat} (hx : x ∈ pre) (hy : y ∈ is) (ex : x.op = some i) (ey : y.op = some i) : False := by
  have := ok.nodup
  rw [hw, List.filterMap_append, List.nodup_append] at this
  exact this.2.2 i (List.mem_filterMap.2 ⟨x, hx, ex⟩) i (List.mem_filterMap.2 ⟨y, hy, ey⟩) rfl
theorem told_once (ok : OkX ops its B) (hw : its = pre ++ is) {i : Nat} (hx : It.ann i ∈ pre) (hy : It.ann i ∈ is) : False := by
  have := ok.nodupA
  rw [hw, List.filterMap_append, List.nodup_append] at this
  exact this.2.2 i (List.mem_filterMap.2 ⟨_, hx, rfl⟩) i (List.mem_filterMap.2 ⟨_, hy, rfl⟩) rfl
theorem op_head {x : It} (ok : OkX ops its B) (hw : its = pre ++ x :: is) {y : It} {i : Nat} (hy : y ∈ is) (ex : x.op = some i) (ey : y.op = some i) : False := by
  have := ok.nodup
  rw [hw, List.filterMap_append, List.nodup_append] at this
  have h2 := this.2.1
  simp only [List.filterMap_cons, ex] at h2
  exact (List.nodup_cons.1 h2).1 (List.mem_filterMap.2 ⟨y, hy, ey⟩)
theorem softs_of {i j : Nat} : ∀ {l : List It}, softsB ops i (l ++ .soft j :: is) = true → It.take i ∉ l → apart2 ops i j = true
  | [], h, _ => by simp only [List.nil_append, softsB, Bool.and_eq_true] at h; exact h.1
  | .take k :: l, h, hn => by
    simp only [List.cons_append, softsB, Bool.or_eq_true, beq_iff_eq] at h
    rcases h with h | h
    · subst h; exact absurd List.mem_cons_self hn
    · exact softs_of h fun x => hn (List.mem_cons_of_mem _ x)
  | .soft k :: l, h, hn => by
    simp only [List.cons_append, softsB, Bool.and_eq_true] at h
    exact softs_of h.2 fun x => hn (List.mem_cons_of_mem _ x)
  | .ann k :: l, h, hn => by
    simp only [List.cons_append, softsB] at h
    exact softs_of h fun x => hn (List.mem_cons_of_mem _ x)
  | .hard k :: l, h, hn => by
    simp only [List.cons_append, softsB] at h
    exact softs_of h fun x => hn (List.mem_cons_of_mem _ x)
theorem anns_of {i j : Nat} : ∀ {l : List It}, annsB ops (l ++ .soft j :: is) = true → It.ann i ∈ l → It.take i ∉ l → apart2 ops i j = true
  | [], _, h, _ => by cases h
  | x :: l, h, hi, hn => by
    have hn' : It.take i ∉ l := fun y => hn (List.mem_cons_of_mem _ y)
    rcases List.mem_cons.1 hi with e | e
    · subst e
      simp only [List.cons_append, annsB, Bool.and_eq_true] at h
      exact softs_of h.1 hn'
    · have : annsB ops (l ++ .soft j :: is) = true := by
        cases x <;> simp only [List.cons_append, annsB, Bool.and_eq_true] at h
        all_goals first | exact h.2 | exact h
      exact anns_of this e hn'

/-- a listed one's waits -/
theorem XI.waits (ok : OkX ops its B) (inv : XI P ops Q L F its B pre is X A G D E a0 listed a w) {j i : Nat} (hj : listed.getD j false = true) (hi : i < ops.size) (hb : bw B j i = true) : listed.getD i false = true := by
  have hjs : j < ops.size := by
    rw [← inv.size]
    apply Classical.byContradiction
    intro h
    simp [show listed.size ≤ j by omega] at hj
  obtain ⟨oj, hoj⟩ : ∃ o, ops[j]? = some o := ⟨_, Array.getElem?_eq_getElem hjs⟩
  exact waitedX ok inv.closed j j (Nat.le_refl _) oj hoj (inv.closed j oj hoj hj) i hi hb

theorem XI.softLt (ok : OkX ops its B) (inv : XI P ops Q L F its B pre is X A G D E a0 listed a w) {d : Nat × Value} (hd : d ∈ D) : d.1 < ops.size :=
  ok.bound (.soft d.1) (by rw [inv.whole]; exact List.mem_append_left _ (inv.dpre d hd).1) d.1 rfl

/-- the text goes past a soft operation -/
theorem XI.passSoft (ok : OkX ops its B) {i : Nat} (inv : XI P ops Q L F its B pre (.soft i :: is) X A G D E a0 listed a w) : ∃ D', XI P ops Q L F its B (pre ++ [.soft i]) is X A G D' E a0 listed a w := by
  obtain ⟨o, v, ho, hs, ht⟩ := inv.text
  have hput : putAll (tb ops) (D ++ [(i, v)]) a0 = (putAll (tb ops) D a0).put o.dst v := by
    rw [putAll_append]
    show (putAll (tb ops) D a0).put ((tb ops i).bind (·.dst)) v = _
    have : (tb ops i).bind (·.dst) = o.dst := by show (ops[i]?).bind _ = _; rw [ho]; rfl
    rw [this]
  have hfr := inv.fresh i (.inl List.mem_cons_self)
  have hmem : It.soft i ∈ It.soft i :: is := List.mem_cons_self
  refine ⟨D ++ [(i, v)], ⟨by rw [inv.whole]; simp, inv.size, inv.closed, inv.act, by rw [hput]; exact ht, fun d hd => ?_, ?_, ?_, fun j hj => ?_, fun j hj => ?_, fun j hj => ?_, fun j hj hl => ?_, fun e he => ?_, inv.enod, ?_, fun j hj hl => ?_, inv.good, inv.cls⟩⟩
  · rcases List.mem_append.1 hd with h | h
    · exact ⟨List.mem_append_left _ (inv.dpre d h).1, (inv.dpre d h).2⟩
    · obtain rfl : d = (i, v) := by simpa using h
      exact ⟨List.mem_append_right _ (by simp), hfr⟩
  · refine List.pairwise_append.2 ⟨inv.dord, by simp, fun x hx y hy => ?_⟩
    obtain rfl : y = (i, v) := by simpa using hy
    exact pair_of ok inv.whole (inv.dpre x hx).1 hmem
  · rw [List.map_append, List.nodup_append]
    refine ⟨inv.dnod, by simp, fun x hx y hy => ?_⟩
    obtain rfl : y = i := by simpa using hy
    obtain ⟨d, hd, rfl⟩ := List.mem_map.1 hx
    intro e
    exact op_once ok inv.whole (inv.dpre d hd).1 hmem rfl (by rw [e]; rfl)
  · rcases List.mem_append.1 hj with h | h
    · exact (inv.done j h).imp_right fun ⟨u, hu⟩ => ⟨u, List.mem_append_left _ hu⟩
    · obtain rfl : j = i := by simpa using h
      exact .inr ⟨v, by simp⟩
  · refine inv.doneH j (hj.imp (fun h => ?_) (fun h => ?_)) <;> (rcases List.mem_append.1 h with h | h; exact h; simp at h)
  · exact inv.fresh j (hj.imp (List.mem_cons_of_mem _) (List.mem_cons_of_mem _))
  · exact inv.ahead j (List.mem_cons_of_mem _ hj) hl
  · obtain ⟨h1, h2, h3, h4⟩ := inv.edo e he
    refine ⟨?_, h2, List.mem_append_left _ h3, h4⟩
    rcases List.mem_cons.1 h1 with h | h
    · cases h
    · exact h
  · refine pend_append inv.yields fun oi hoi => ?_
    have : oi = o := Option.some.inj (hoi.symm.trans ho)
    subst this; exact hs
  · have hj' : It.ann j ∈ pre := by rcases List.mem_append.1 hj with h | h; exact h; simp at h
    obtain ⟨oj, f, ob, h1, h2, h3, h4⟩ := inv.anns j hj' hl
    have hnt : It.take j ∉ pre := fun h => by have := inv.doneH j (.inr h); rw [this] at hl; cases hl
    have hap : apart2 ops j i = true := by
      have := ok.anns
      rw [inv.whole] at this
      exact anns_of this hj' hnt
    obtain ⟨p1, p2⟩ := apart2_spec hap h1 ho
    refine ⟨oj, f, ob, h1, h2, fun w hw => ?_, fun d hd => ?_⟩
    · rw [hput, execOp_put oj (fun cs b => hselX ok j oj cs b h1) _ o.dst v (Oper.apart_spec p2).1]
      exact h3 w hw
    · rcases List.mem_append.1 hd with h | h
      · exact h4 d h
      · obtain rfl : d = (i, v) := by simpa using h
        rw [apart2_symm hap, Bool.or_true]

/-- the text tells a birth -/
theorem XI.passAnn (ok : OkX ops its B) {i : Nat} (inv : XI P ops Q L F its B pre (.ann i :: is) X A G D E a0 listed a w) (hi : listed.getD i false = false) : ∃ X', XI P ops Q L F its B (pre ++ [.ann i]) is X' A G D E a0 listed a w := by
  obtain ⟨o, f, ob, ho, hs, ht⟩ := inv.text
  have hmem : It.ann i ∈ It.ann i :: is := List.mem_cons_self
  have hlook : ∀ j, j ≠ i → look ((i, f, ob) :: X) j = look X j := fun j hj => by
    show (if i = j then _ else _) = _
    rw [if_neg (Ne.symm hj)]
  refine ⟨(i, f, ob) :: X, ⟨by rw [inv.whole]; simp, inv.size, inv.closed, inv.act, ht, fun d hd => ⟨List.mem_append_left _ (inv.dpre d hd).1, (inv.dpre d hd).2⟩, inv.dord, inv.dnod, fun j hj => ?_, fun j hj => ?_, fun j hj => ?_, fun j hj hl => ?_, fun e he => ?_, inv.enod, inv.yields, fun j hj hl => ?_, inv.good, inv.cls⟩⟩
  · rcases List.mem_append.1 hj with h | h
    · exact inv.done j h
    · simp at h
  · refine inv.doneH j (hj.imp (fun h => ?_) (fun h => ?_)) <;> (rcases List.mem_append.1 h with h | h; exact h; simp at h)
  · exact inv.fresh j (hj.imp (List.mem_cons_of_mem _) (List.mem_cons_of_mem _))
  · exact inv.ahead j (List.mem_cons_of_mem _ hj) hl
  · obtain ⟨h1, h2, h3, f', ob', h4, h5⟩ := inv.edo e he
    refine ⟨?_, h2, List.mem_append_left _ h3, f', ob', ?_, h5⟩
    · rcases List.mem_cons.1 h1 with h | h
      · cases h
      · exact h
    · rw [hlook e.1 (fun h => by rw [h] at h3; exact told_once ok inv.whole h3 hmem)]; exact h4
  · by_cases hji : j = i
    · subst hji
      refine ⟨o, f, ob, ho, by show (if j = j then _ else _) = _; rw [if_pos rfl], hs, fun d hd => ?_⟩
      exact pair_of ok inv.whole (inv.dpre d hd).1 hmem
    · have hj' : It.ann j ∈ pre := by
        rcases List.mem_append.1 hj with h | h
        · exact h
        · simp at h; exact absurd h hji
      obtain ⟨oj, f', ob', h1, h2, h3⟩ := inv.anns j hj' hl
      exact ⟨oj, f', ob', h1, by rw [hlook j hji]; exact h2, h3⟩

theorem XI.annFresh (ok : OkX ops its B) {i : Nat} (inv : XI P ops Q L F its B pre is X A G D E a0 listed a w) (hi : It.ann i ∈ is) : listed.getD i false = false := by
  cases hl : listed.getD i false with
  | false => rfl
  | true =>
    exfalso
    have ht := (ok.taken i (by rw [inv.whole]; exact List.mem_append_right _ hi)).1
    rw [inv.whole] at ht
    rcases List.mem_append.1 ht with h | h
    · -- taken ahead of its telling: the pair says it waits for itself
      have := pair_of ok inv.whole h hi
      simp only [pairB, bw] at this
      obtain ⟨o, ho⟩ := (ok.taken i (by rw [inv.whole]; exact List.mem_append_right _ hi)).2
      have hs := (Array.getElem?_eq_some_iff.1 ho.1).1
      have : ∀ (m j : Nat), j ≤ m → j ≤ i → ∀ oj, ops[j]? = some oj → (B.getD j 0).testBit i = true → False := by
        intro m
        induction m with
        | zero =>
          intro j hj hji oj hoj hb
          rcases ok.wait j oj hoj i hs hb with h | ⟨k, hk, _⟩
          · have := ok.up j oj hoj i h; omega
          · have := ok.up j oj hoj k hk; omega
        | succ m ih =>
          intro j hj hji oj hoj hb
          rcases ok.wait j oj hoj i hs hb with h | ⟨k, hk, hb'⟩
          · have := ok.up j oj hoj i h; omega
          · have := ok.up j oj hoj k hk
            obtain ⟨ok', hok'⟩ : ∃ o, ops[k]? = some o := ⟨_, Array.getElem?_eq_getElem (by omega)⟩
            exact ih k (by omega) (by omega) ok' hok' hb'
      exact this i i (Nat.le_refl _) (Nat.le_refl _) o ho.1 (by assumption)
    · obtain ⟨e, he, rfl⟩ := inv.ahead i h hl
      exact told_once ok inv.whole (inv.edo e he).2.2.1 hi

/-- the text takes a birth that has been -/
theorem XI.passTake (ok : OkX ops its B) {i : Nat} (inv : XI P ops Q L F its B pre (.take i :: is) X A G D E a0 listed a w) (hi : listed.getD i false = true) : ∃ A' E' a0', XI P ops Q L F its B (pre ++ [.take i]) is X A' G D E' a0' listed a w := by
  obtain ⟨o, f, ob, ho, hlk, ht⟩ := inv.text
  have hmem : It.take i ∈ It.take i :: is := List.mem_cons_self
  obtain ⟨e, he, hei⟩ := inv.ahead i hmem hi
  obtain ⟨h1, h2, h3, f', ob', h4, h5, h6, h7⟩ := inv.edo e he
  rw [hei, hlk] at h4
  simp only [Option.some.injEq, Prod.mk.injEq] at h4
  obtain ⟨rfl, rfl⟩ := h4
  obtain ⟨E1, E2, rfl⟩ := List.append_of_mem he
  have hne : ∀ x ∈ E1 ++ E2, x.1 ≠ i := fun x hx hxi => by
    have := inv.enod
    rw [List.map_append, List.map_cons, List.nodup_append] at this
    rcases List.mem_append.1 hx with h | h
    · exact this.2.2 x.1 (List.mem_map.2 ⟨x, h, rfl⟩) e.1 List.mem_cons_self (by rw [hxi, hei])
    · exact (List.nodup_cons.1 this.2.1).1 (by rw [hei, ← hxi]; exact List.mem_map.2 ⟨x, h, rfl⟩)
  have hin : ∀ x ∈ E1 ++ E2, It.take x.1 ∈ is := fun x hx => by
    have hx' : x ∈ E1 ++ e :: E2 := by
      rcases List.mem_append.1 hx with h | h
      · exact List.mem_append_left _ h
      · exact List.mem_append_right _ (List.mem_cons_of_mem _ h)
    rcases List.mem_cons.1 (inv.edo x hx').1 with h | h
    · simp only [It.take.injEq] at h; exact absurd h (hne x hx)
    · exact h
  have hapE : ApartAll ops (tb ops) (E1.map fun e => (e.1, e.2.1)) o := apartAll_of ho fun d hd => by
    obtain ⟨x, hx, rfl⟩ := List.mem_map.1 hd
    have := pair_head ok inv.whole (hin x (List.mem_append_left _ hx))
    exact apart2_symm (by simpa [pairB] using this)
  have hapD : ApartAll ops (tb ops) D o := apartAll_of ho fun d hd => by
    have := pair_of ok inv.whole (inv.dpre d hd).1 hmem
    simp only [pairB, Bool.or_eq_true] at this
    rcases this with h | h
    · have := inv.waits ok hi (inv.softLt ok hd) h
      rw [(inv.dpre d hd).2] at this; cases this
    · exact h
  have hact : a = putAll (tb ops) ((E1 ++ E2).map fun e => (e.1, e.2.1)) (a0.put o.dst (f e.2.2)) := by
    rw [inv.act, List.map_append, List.map_append, List.map_cons]
    have he' : (e.1, e.2.1) = (i, f e.2.2) := by rw [hei, h5]
    rw [he']
    exact putAll_remove ho hapE a0
  have hT : putAll (tb ops) D (a0.put o.dst (f e.2.2)) = (putAll (tb ops) D a0).put o.dst (f e.2.2) := putAll_put hapD a0 _
  refine ⟨fun G w => A G w ∧ w.heap[e.2.2]? = some ob ∧ ¬ G e.2.2, E1 ++ E2, a0.put o.dst (f e.2.2), ⟨by rw [inv.whole]; simp, inv.size, inv.closed, hact, by rw [hT]; exact ht e.2.2, fun d hd => ⟨List.mem_append_left _ (inv.dpre d hd).1, (inv.dpre d hd).2⟩, inv.dord, inv.dnod, fun j hj => ?_, fun j hj => ?_, fun j hj => ?_, fun j hj hl => ?_, fun x hx => ?_, ?_, pend_put (hselX ok) hapD _ inv.yields, fun j hj hl => ?_, ?_, ⟨inv.cls, h6, h7⟩⟩⟩
  · rcases List.mem_append.1 hj with h | h
    · exact inv.done j h
    · simp at h
  · rcases hj with h | h
    · rcases List.mem_append.1 h with h | h
      · exact inv.doneH j (.inl h)
      · simp at h
    · rcases List.mem_append.1 h with h | h
      · exact inv.doneH j (.inr h)
      · simp only [List.mem_singleton, It.take.injEq] at h; subst h; exact hi
  · exact inv.fresh j (hj.imp (List.mem_cons_of_mem _) (List.mem_cons_of_mem _))
  · obtain ⟨x, hx, hxj⟩ := inv.ahead j (List.mem_cons_of_mem _ hj) hl
    have hxe : x ≠ e := fun h => by
      rw [h, hei] at hxj
      subst hxj
      exact op_head ok inv.whole hj rfl rfl
    rcases List.mem_append.1 hx with h | h
    · exact ⟨x, List.mem_append_left _ h, hxj⟩
    · rcases List.mem_cons.1 h with h | h
      · exact absurd h hxe
      · exact ⟨x, List.mem_append_right _ h, hxj⟩
  · have hx' : x ∈ E1 ++ e :: E2 := by
      rcases List.mem_append.1 hx with h | h
      · exact List.mem_append_left _ h
      · exact List.mem_append_right _ (List.mem_cons_of_mem _ h)
    obtain ⟨g1, g2, g3, g4⟩ := inv.edo x hx'
    exact ⟨hin x hx, g2, List.mem_append_left _ g3, g4⟩
  · have := inv.enod
    rw [List.map_append, List.map_cons] at this
    rw [List.map_append]
    exact (List.Sublist.nodup (List.Sublist.append_left (List.sublist_cons_self _ _) _) this)
  · have hj' : It.ann j ∈ pre := by rcases List.mem_append.1 hj with h | h; exact h; simp at h
    obtain ⟨oj, g, obj, g1, g2, g3, g4⟩ := inv.anns j hj' hl
    refine ⟨oj, g, obj, g1, g2, fun w hw => ?_, g4⟩
    have hp := pair_of ok inv.whole hj' hmem
    simp only [pairB, Bool.or_eq_true, beq_iff_eq] at hp
    have hjs : j < ops.size := (Array.getElem?_eq_some_iff.1 g1).1
    rcases hp with (h | h) | h
    · subst h; rw [hi] at hl; cases hl
    · have := inv.waits ok hi hjs h; rw [this] at hl; cases hl
    · obtain ⟨p1, p2⟩ := apart2_spec h g1 ho
      rw [hT, execOp_put oj (fun cs b => hselX ok j oj cs b g1) _ o.dst _ (Oper.apart_spec p2).1]
      exact g3 w hw
  · refine ⟨fun G w o' h => ⟨inv.good.grow G w o' h.1, heap_old _ h.2.1, h.2.2⟩, fun G w h => inv.good.load G w h.1, fun G w b h => inv.good.old G w b h.1⟩

/-- the text comes up to an operation that may come up -/
theorem XI.up (ok : OkX ops its B) {j : Nat} {y : It} (hy : y = .soft j ∨ y = .hard j ∨ y = .ann j) {is2 : List It} : ∀ (is1 : List It) {pre : List It} {X : Anns} {A : Asn} {D : List (Nat × Value)} {E : List (Nat × Value × Nat)} {a0 : Act},
    XI P ops Q L F its B pre (is1 ++ y :: is2) X A G D E a0 listed a w → listed.getD j false = false → (∀ i, i < ops.size → bw B j i = true → listed.getD i false = true) →
    ∃ pre' X' A' D' E' a0', XI P ops Q L F its B pre' (y :: is2) X' A' G D' E' a0' listed a w
  | [], _, _, _, _, _, _, inv, _, _ => ⟨_, _, _, _, _, _, inv⟩
  | x :: is1, pre, X, A, D, E, a0, inv, hj, hb => by
    have hmem : y ∈ is1 ++ y :: is2 := List.mem_append_right _ List.mem_cons_self
    have hbx : ∀ i, x.op = some i → i < ops.size := fun i hi => ok.bound x (by rw [inv.whole]; exact List.mem_append_right _ List.mem_cons_self) i hi
    cases x with
    | soft i =>
      obtain ⟨D', inv'⟩ := XI.passSoft ok inv
      exact XI.up ok hy is1 inv' hj hb
    | ann i =>
      obtain ⟨X', inv'⟩ := XI.passAnn ok inv (inv.annFresh ok List.mem_cons_self)
      exact XI.up ok hy is1 inv' hj hb
    | take i =>
      have hp := pair_head ok inv.whole hmem
      have hl : listed.getD i false = true := by
        refine hb i (hbx i rfl) ?_
        rcases hy with rfl | rfl | rfl <;> simpa [pairB] using hp
      obtain ⟨A', E', a0', inv'⟩ := XI.passTake ok inv hl
      exact XI.up ok hy is1 inv' hj hb
    | hard i =>
      have hp := pair_head ok inv.whole hmem
      have hl : listed.getD i false = true := by
        refine hb i (hbx i rfl) ?_
        rcases hy with rfl | rfl | rfl <;> simpa [pairB] using hp
      rw [inv.fresh i (.inr List.mem_cons_self)] at hl
      cases hl

theorem closed_set {j : Nat} {oj : Oper} (hsz : listed.size = ops.size) (closed : ∀ j oj, ops[j]? = some oj → listed.getD j false = true → ∀ k ∈ waits oj, listed.getD k false = true) (hoj : ops[j]? = some oj) (hw : ∀ k ∈ waits oj, listed.getD k false = true) :
    ∀ i oi, ops[i]? = some oi → (listed.setIfInBounds j true).getD i false = true → ∀ k ∈ waits oi, (listed.setIfInBounds j true).getD k false = true := fun i oi hoi hl k hk => by
  have hjs : j < listed.size := by rw [hsz]; exact (Array.getElem?_eq_some_iff.1 hoj).1
  rw [getD_put hjs] at hl ⊢
  split
  · rfl
  · by_cases hij : i = j
    · subst hij
      have : oi = oj := Option.some.inj (hoi.symm.trans hoj)
      subst this
      exact hw k hk
    · rw [if_neg hij] at hl; exact closed i oi hoi hl k hk

theorem XI.lt (inv : XI P ops Q L F its B pre is X A G D E a0 listed a w) {j : Nat} {oj : Oper} (hoj : ops[j]? = some oj) : j < listed.size := by rw [inv.size]; exact (Array.getElem?_eq_some_iff.1 hoj).1

/-- the run comes to a soft operation that the text has passed -/
theorem xi_doSoft (ok : OkX ops its B) (inv : XI P ops Q L F its B pre is X A G D E a0 listed a w) {j : Nat} {oj : Oper} (hoj : ops[j]? = some oj) (hj : listed.getD j false = false) (hw : ∀ k ∈ waits oj, listed.getD k false = true) (hpre : It.soft j ∈ pre) :
    ∃ v, softAt P ops oj (cls (F.getD j (false, false)).2 L) v a ∧ ∃ D' a0', XI P ops Q L F its B pre is X A G D' E a0' (listed.setIfInBounds j true) (a.put oj.dst v) w := by
  have hjs := inv.lt hoj
  have hbw : ∀ i, i < ops.size → bw B j i = true → listed.getD i false = true := waitedX ok inv.closed j j (Nat.le_refl _) oj hoj hw
  obtain ⟨v, hv⟩ : ∃ v, (j, v) ∈ D := (inv.done j hpre).resolve_left (by rw [hj]; simp)
  obtain ⟨D1, D2, hD⟩ := List.append_of_mem hv
  have hne : ∀ d ∈ D1 ++ D2, d.1 ≠ j := fun d hd e => by
    have := inv.dnod
    rw [hD, List.map_append, List.map_cons, List.nodup_append] at this
    rcases List.mem_append.1 hd with h | h
    · exact this.2.2 d.1 (List.mem_map.2 ⟨d, h, rfl⟩) j List.mem_cons_self e
    · exact (List.nodup_cons.1 this.2.1).1 (by rw [← e]; exact List.mem_map.2 ⟨d, h, rfl⟩)
  have hsub : ∀ d ∈ D1 ++ D2, d ∈ D := fun d hd => by
    rw [hD]
    rcases List.mem_append.1 hd with h | h
    · exact List.mem_append_left _ h
    · exact List.mem_append_right _ (List.mem_cons_of_mem _ h)
  have hap1 : ApartAll ops (tb ops) D1 oj := apartAll_of hoj fun d hd => by
    have hdD := hsub d (List.mem_append_left _ hd)
    have := inv.dord
    rw [hD] at this
    have := (List.pairwise_append.1 this).2.2 d hd (j, v) List.mem_cons_self
    simp only [pairB, Bool.or_eq_true] at this
    rcases this with h | h
    · have := hbw d.1 (inv.softLt ok hdD) h
      rw [(inv.dpre d hdD).2] at this; cases this
    · exact h
  have hy := inv.yields
  rw [hD] at hy
  obtain ⟨s1, s2, s3⟩ := pend_remove (hselX ok) hoj hap1 hy
  have hapE : ApartAll ops (tb ops) (E.map fun e => (e.1, e.2.1)) oj := apartAll_of hoj fun d hd => by
    obtain ⟨e, he, rfl⟩ := List.mem_map.1 hd
    have := pair_of ok inv.whole hpre (inv.edo e he).1
    simp only [pairB, Bool.or_eq_true] at this
    rcases this with h | h
    · have := inv.waits ok (inv.edo e he).2.1 (by rw [← inv.size]; exact hjs) h
      rw [hj] at this; cases this
    · exact apart2_symm h
  obtain ⟨x1, x2⟩ := exec_putAll (fun cs b => hselX ok j oj cs b hoj) hapE a0
  have hput : ∀ i, listed.getD i false = true → (listed.setIfInBounds j true).getD i false = true := fun i hi => by rw [getD_put hjs]; split; rfl; exact hi
  have hget : ∀ i, i ≠ j → (listed.setIfInBounds j true).getD i false = listed.getD i false := fun i hi => by rw [getD_put hjs, if_neg hi]
  refine ⟨v, ?_, D1 ++ D2, a0.put oj.dst v, ⟨inv.whole, by simp [inv.size], closed_set inv.size inv.closed hoj hw, ?_, ?_, fun d hd => ?_, ?_, ?_, fun i hi => ?_, fun i hi => hput i (inv.doneH i hi), fun i hi => ?_, fun i hi hl => ?_, fun e he => ?_, inv.enod, s2, fun i hi hl => ?_, inv.good, inv.cls⟩⟩
  · rw [inv.act]; exact softAt_of x1 x2 s1
  · rw [inv.act]; exact (putAll_put hapE a0 v).symm
  · rw [s3, ← hD]; exact inv.text
  · exact ⟨(inv.dpre d (hsub d hd)).1, by rw [hget d.1 (hne d hd)]; exact (inv.dpre d (hsub d hd)).2⟩
  · have := inv.dord
    rw [hD] at this
    exact List.Pairwise.sublist (List.Sublist.append_left (List.sublist_cons_self _ _) _) this
  · have := inv.dnod
    rw [hD, List.map_append, List.map_cons] at this
    rw [List.map_append]
    exact List.Sublist.nodup (List.Sublist.append_left (List.sublist_cons_self _ _) _) this
  · by_cases hij : i = j
    · left; rw [getD_put hjs, if_pos hij]
    · rcases inv.done i hi with h | ⟨u, hu⟩
      · exact .inl (hput i h)
      · right
        refine ⟨u, ?_⟩
        rw [hD] at hu
        rcases List.mem_append.1 hu with h | h
        · exact List.mem_append_left _ h
        · rcases List.mem_cons.1 h with h | h
          · simp only [Prod.mk.injEq] at h; exact absurd h.1 hij
          · exact List.mem_append_right _ h
  · rw [hget i (fun h => by
      subst h
      rcases hi with h | h
      · exact op_once ok inv.whole hpre h rfl rfl
      · exact op_once ok inv.whole hpre h rfl rfl)]
    exact inv.fresh i hi
  · rw [hget i (fun h => by subst h; exact op_once ok inv.whole hpre hi rfl rfl)] at hl
    exact inv.ahead i hi hl
  · obtain ⟨h1, h2, h3⟩ := inv.edo e he
    exact ⟨h1, hput _ h2, h3⟩
  · have hl' : listed.getD i false = false := by
      cases h : listed.getD i false with
      | false => rfl
      | true => rw [hput i h] at hl; cases hl
    obtain ⟨oi, f, ob, h1, h2, h3, h4⟩ := inv.anns i hi hl'
    exact ⟨oi, f, ob, h1, h2, fun w hw => by rw [s3, ← hD]; exact h3 w hw, fun d hd => h4 d (hsub d hd)⟩

/-- the run comes to a birth that the text has told -/
theorem xi_doBorn (ok : OkX ops its B) (inv : XI P ops Q L F its B pre is X A G D E a0 listed a w) {j : Nat} {oj : Oper} (hoj : ops[j]? = some oj) (hj : listed.getD j false = false) (hw : ∀ k ∈ waits oj, listed.getD k false = true) (hpre : It.ann j ∈ pre) :
    ∃ (f : Nat → Value) (ob : Obj), (execOp a.eval oj).run P w = .ok (.value (f w.heap.size)) (w.alloc ob) ∧ XI P ops Q L F its B pre is X A G D (E ++ [(j, f w.heap.size, w.heap.size)]) a0 (listed.setIfInBounds j true) (a.put oj.dst (f w.heap.size)) (w.alloc ob) := by
  have hjs := inv.lt hoj
  have hbw : ∀ i, i < ops.size → bw B j i = true → listed.getD i false = true := waitedX ok inv.closed j j (Nat.le_refl _) oj hoj hw
  obtain ⟨o, f, ob, ho, hlk, hex, hD⟩ := inv.anns j hpre hj
  have : o = oj := Option.some.inj (ho.symm.trans hoj)
  subst this
  have hapD : ApartAll ops (tb ops) D o := apartAll_of ho fun d hd => by
    have := hD d hd
    rw [Bool.or_eq_true] at this
    rcases this with h | h
    · have := hbw d.1 (inv.softLt ok hd) h
      rw [(inv.dpre d hd).2] at this; cases this
    · exact h
  have hapE : ApartAll ops (tb ops) (E.map fun e => (e.1, e.2.1)) o := apartAll_of ho fun d hd => by
    obtain ⟨e, he, rfl⟩ := List.mem_map.1 hd
    have hle := (inv.edo e he).2.1
    have := pair_of ok inv.whole hpre (inv.edo e he).1
    simp only [pairB, Bool.or_eq_true, beq_iff_eq] at this
    rcases this with (h | h) | h
    · rw [← h, hj] at hle; cases hle
    · have := inv.waits ok hle (by rw [← inv.size]; exact hjs) h
      rw [hj] at this; cases this
    · exact apart2_symm h
  have hs := fun cs b => hselX ok j o cs b ho
  have hrun : (execOp a.eval o).run P w = .ok (.value (f w.heap.size)) (w.alloc ob) := by
    rw [inv.act, (exec_putAll hs hapE a0).1, ← (exec_putAll hs hapD a0).1]
    exact hex w (inv.good.load G w inv.cls)
  have hput : ∀ i, listed.getD i false = true → (listed.setIfInBounds j true).getD i false = true := fun i hi => by rw [getD_put hjs]; split; rfl; exact hi
  have hget : ∀ i, i ≠ j → (listed.setIfInBounds j true).getD i false = listed.getD i false := fun i hi => by rw [getD_put hjs, if_neg hi]
  have hin : It.take j ∈ is := by
    have := (ok.taken j (by rw [inv.whole]; exact List.mem_append_left _ hpre)).1
    rw [inv.whole] at this
    rcases List.mem_append.1 this with h | h
    · have := inv.doneH j (.inr h); rw [hj] at this; cases this
    · exact h
  refine ⟨f, ob, hrun, ⟨inv.whole, by simp [inv.size], closed_set inv.size inv.closed hoj hw, ?_, inv.text, fun d hd => ?_, inv.dord, inv.dnod, fun i hi => (inv.done i hi).imp_left (hput i), fun i hi => hput i (inv.doneH i hi), fun i hi => ?_, fun i hi hl => ?_, fun e he => ?_, ?_, inv.yields, fun i hi hl => ?_, inv.good, inv.good.grow G w ob inv.cls⟩⟩
  · rw [List.map_append, putAll_append, ← inv.act]
    show a.put o.dst (f w.heap.size) = a.put ((tb ops j).bind (·.dst)) (f w.heap.size)
    have : (tb ops j).bind (·.dst) = o.dst := by show (ops[j]?).bind _ = _; rw [ho]; rfl
    rw [this]
  · refine ⟨(inv.dpre d hd).1, ?_⟩
    rw [hget d.1 (fun h => by
      have hp := (inv.dpre d hd).1
      rw [h] at hp
      exact op_once ok inv.whole hp hin rfl rfl)]
    exact (inv.dpre d hd).2
  · rw [hget i (fun h => by
      subst h
      have hnd := ok.nodup
      have hmem1 : ∀ x ∈ is, x.op = some i → x = It.take i → True := fun _ _ _ _ => trivial
      rw [inv.whole, List.filterMap_append, List.nodup_append] at hnd
      have h2 := hnd.2.1
      obtain ⟨l1, l2, rfl⟩ := List.append_of_mem hin
      rw [List.filterMap_append, List.filterMap_cons] at h2
      simp only [It.op] at h2
      rw [List.nodup_append, List.nodup_cons] at h2
      rcases hi with h | h
      · rcases List.mem_append.1 h with h | h
        · exact h2.2.2 i (List.mem_filterMap.2 ⟨_, h, rfl⟩) i List.mem_cons_self rfl
        · rcases List.mem_cons.1 h with h | h
          · cases h
          · exact h2.2.1.1 (List.mem_filterMap.2 ⟨_, h, rfl⟩)
      · rcases List.mem_append.1 h with h | h
        · exact h2.2.2 i (List.mem_filterMap.2 ⟨_, h, rfl⟩) i List.mem_cons_self rfl
        · rcases List.mem_cons.1 h with h | h
          · cases h
          · exact h2.2.1.1 (List.mem_filterMap.2 ⟨_, h, rfl⟩))]
    exact inv.fresh i hi
  · by_cases hij : i = j
    · subst hij; exact ⟨_, List.mem_append_right _ List.mem_cons_self, rfl⟩
    · rw [hget i hij] at hl
      obtain ⟨e, he, h⟩ := inv.ahead i hi hl
      exact ⟨e, List.mem_append_left _ he, h⟩
  · rcases List.mem_append.1 he with h | h
    · obtain ⟨h1, h2, h3, f', ob', h4, h5, h6, h7⟩ := inv.edo e h
      exact ⟨h1, hput _ h2, h3, f', ob', h4, h5, heap_old ob h6, h7⟩
    · obtain rfl : e = (j, f w.heap.size, w.heap.size) := by simpa using h
      exact ⟨hin, by rw [getD_put hjs, if_pos rfl], hpre, f, ob, hlk, rfl, heap_new w ob, fun hG => by have := inv.good.old G w _ inv.cls hG; exact Nat.lt_irrefl _ this⟩
  · rw [List.map_append, List.nodup_append]
    refine ⟨inv.enod, by simp, fun x hx y hy => ?_⟩
    obtain rfl : y = j := by simpa using hy
    obtain ⟨e, he, rfl⟩ := List.mem_map.1 hx
    intro h
    have := (inv.edo e he).2.1
    rw [h, hj] at this; cases this
  · have hl' : listed.getD i false = false := by
      cases h : listed.getD i false with
      | false => rfl
      | true => rw [hput i h] at hl; cases hl
    exact inv.anns i hi hl'

theorem xi_ready (ok : OkX ops its B) (hsz : listed.size = ops.size) {m : Nat} (hm : m < ops.size) (hu : listed.getD m false = false) : Region.ready .any ops listed ≠ [] := by
  induction m using Nat.strongRecOn with
  | _ m ih =>
    obtain ⟨o, ho⟩ : ∃ o, ops[m]? = some o := ⟨_, Array.getElem?_eq_getElem hm⟩
    by_cases hall : ∀ k ∈ waits o, listed.getD k false = true
    · intro h0
      have : m ∈ Region.ready .any ops listed := mem_ready.2 ⟨by rw [getD_ft (by omega)]; exact hu, o, ho, fun e he hb => hall _ (waits_mem.2 ⟨e, he, hb, rfl⟩)⟩
      rw [h0] at this; cases this
    · have : ∃ k, k ∈ waits o ∧ listed.getD k false = false := by
        apply Classical.byContradiction
        intro hn
        exact hall fun k hk => by
          cases hb : listed.getD k false with
          | true => rfl
          | false => exact absurd ⟨k, hk, hb⟩ hn
      obtain ⟨k, hk, hb⟩ := this
      have := ok.up m o ho k hk
      exact ih k this (by omega) hb

theorem xi_finish (ok : OkX ops its B) : ∀ (is : List It) {pre : List It} {X : Anns} {A : Asn} {D : List (Nat × Value)} {E : List (Nat × Value × Nat)} {a0 : Act},
    XI P ops Q L F its B pre is X A G D E a0 listed a w → (∀ i, i < ops.size → listed.getD i false = true) → Q .normal a w
  | [], pre, X, A, D, E, a0, inv, hall => by
    have hD : D = [] := by
      cases D with
      | nil => rfl
      | cons d D =>
        have h1 := (inv.dpre d List.mem_cons_self).2
        rw [hall d.1 (inv.softLt ok List.mem_cons_self)] at h1; cases h1
    have hE : E = [] := by
      cases E with
      | nil => rfl
      | cons e E => cases (inv.edo e List.mem_cons_self).1
    subst hD hE
    have ha : a = a0 := inv.act
    subst ha
    exact inv.text G w inv.cls
  | x :: is, pre, X, A, D, E, a0, inv, hall => by
    have hbx : ∀ i, x.op = some i → i < ops.size := fun i hi => ok.bound x (by rw [inv.whole]; exact List.mem_append_right _ List.mem_cons_self) i hi
    cases x with
    | soft i => have := inv.fresh i (.inl List.mem_cons_self); rw [hall i (hbx i rfl)] at this; cases this
    | hard i => have := inv.fresh i (.inr List.mem_cons_self); rw [hall i (hbx i rfl)] at this; cases this
    | ann i =>
      have := inv.annFresh ok (i := i) List.mem_cons_self
      have h2 := (ok.taken i (by rw [inv.whole]; exact List.mem_append_right _ List.mem_cons_self)).2
      obtain ⟨o, ho, _⟩ := h2
      rw [hall i (Array.getElem?_eq_some_iff.1 ho).1] at this; cases this
    | take i =>
      obtain ⟨A', E', a0', inv'⟩ := XI.passTake ok inv (hall i (hbx i rfl))
      exact xi_finish ok is inv' hall

/-- behind a hard operation -/
theorem xi_hard (ok : OkX ops its B) {j : Nat} {oj : Oper} (inv : XI P ops Q L F its B pre (.hard j :: is) X A G D E a0 listed a w) (hoj : ops[j]? = some oj) (hw : ∀ k ∈ waits oj, listed.getD k false = true) (hapD : ApartAll ops (tb ops) D oj) (hapE : ApartAll ops (tb ops) (E.map fun e => (e.1, e.2.1)) oj)
    (u : Value) (w' : World) (A' : Asn) (G' : Nat → Prop) (hg : Good L A') (hc : A' G' w') (hO : hasTake is = true → Only G w w') (hG : ∀ b, G' b → G b ∨ w.heap.size ≤ b) (ht : wpX P ops Q L F is X A' ((putAll (tb ops) D a0).put oj.dst u)) :
    XI P ops Q L F its B (pre ++ [.hard j]) is X A' G' D E (a0.put oj.dst u) (listed.setIfInBounds j true) (a.put oj.dst u) w' := by
  have hjs := inv.lt hoj
  have hj := inv.fresh j (.inr List.mem_cons_self)
  have hput : ∀ i, listed.getD i false = true → (listed.setIfInBounds j true).getD i false = true := fun i hi => by rw [getD_put hjs]; split; rfl; exact hi
  have hget : ∀ i, i ≠ j → (listed.setIfInBounds j true).getD i false = listed.getD i false := fun i hi => by rw [getD_put hjs, if_neg hi]
  have hmem : It.hard j ∈ It.hard j :: is := List.mem_cons_self
  have hT : putAll (tb ops) D (a0.put oj.dst u) = (putAll (tb ops) D a0).put oj.dst u := putAll_put hapD a0 u
  refine ⟨by rw [inv.whole]; simp, by simp [inv.size], closed_set inv.size inv.closed hoj hw, by rw [inv.act]; exact (putAll_put hapE a0 u).symm, by rw [hT]; exact ht, fun d hd => ⟨List.mem_append_left _ (inv.dpre d hd).1, ?_⟩, inv.dord, inv.dnod, fun i hi => ?_, fun i hi => ?_, fun i hi => ?_, fun i hi hl => ?_, fun e he => ?_, inv.enod, pend_put (hselX ok) hapD u inv.yields, fun i hi hl => ?_, hg, hc⟩
  · rw [hget d.1 (fun h => by
      have hp := (inv.dpre d hd).1
      rw [h] at hp
      exact op_once ok inv.whole hp hmem rfl rfl)]
    exact (inv.dpre d hd).2
  · rcases List.mem_append.1 hi with h | h
    · exact (inv.done i h).imp_left (hput i)
    · simp at h
  · rcases hi with h | h
    · rcases List.mem_append.1 h with h | h
      · exact hput i (inv.doneH i (.inl h))
      · simp only [List.mem_singleton, It.hard.injEq] at h
        subst h; rw [getD_put hjs, if_pos rfl]
    · rcases List.mem_append.1 h with h | h
      · exact hput i (inv.doneH i (.inr h))
      · simp at h
  · rw [hget i (fun h => by
      subst h
      rcases hi with h | h
      · exact op_head ok inv.whole h rfl rfl
      · exact op_head ok inv.whole h rfl rfl)]
    exact inv.fresh i (hi.imp (List.mem_cons_of_mem _) (List.mem_cons_of_mem _))
  · rw [hget i (fun h => by subst h; exact op_head ok inv.whole hi rfl rfl)] at hl
    exact inv.ahead i (List.mem_cons_of_mem _ hi) hl
  · obtain ⟨h1, h2, h3, f, ob, h4, h5, h6, h7⟩ := inv.edo e he
    have h1' : It.take e.1 ∈ is := by
      rcases List.mem_cons.1 h1 with h | h
      · cases h
      · exact h
    refine ⟨h1', hput _ h2, List.mem_append_left _ h3, f, ob, h4, h5, (hO (hasTake_of h1')).at h6 h7, fun h => ?_⟩
    · rcases hG _ h with h | h
      · exact h7 h
      · have := heap_lt h6; omega
  · have hl' : listed.getD i false = false := by
      cases h : listed.getD i false with
      | false => rfl
      | true => rw [hput i h] at hl; cases hl
    have hi' : It.ann i ∈ pre := by rcases List.mem_append.1 hi with h | h; exact h; simp at h
    obtain ⟨oi, f, ob, h1, h2, h3, h4⟩ := inv.anns i hi' hl'
    refine ⟨oi, f, ob, h1, h2, fun w hw' => ?_, h4⟩
    have hp := pair_of ok inv.whole hi' hmem
    simp only [pairB, Bool.or_eq_true] at hp
    rcases hp with h | h
    · have := waitedX ok inv.closed j j (Nat.le_refl _) oj hoj hw i (Array.getElem?_eq_some_iff.1 h1).1 h
      rw [this] at hl'; cases hl'
    · obtain ⟨p1, p2⟩ := apart2_spec h h1 hoj
      rw [hT, execOp_put oi (fun cs b => hselX ok i oi cs b h1) _ oj.dst u (Oper.apart_spec p2).1]
      exact h3 w hw'
end

theorem wpX_any {Q : Exit → Act → World → Prop} {L : World → Prop} {F : List (Bool × Bool)} {its : List It} {B : List Nat} (ok : OkX ops its B) : ∀ (fuel : Nat) (U : List Nat) (listed : Array Bool) (a : Act) (w : World) (pre is : List It) (X : Anns) (A : Asn) (G : Nat → Prop) (D : List (Nat × Value)) (E : List (Nat × Value × Nat)) (a0 : Act),
    XI P ops Q L F its B pre is X A G D E a0 listed a w → (∀ i, i < ops.size → listed.getD i false = false → i ∈ U) → U.length ≤ fuel → wpAny P .any ops Q fuel listed a w := by
  intro fuel
  have fin : ∀ (listed : Array Bool) (a : Act) (w : World) (pre is : List It) (X : Anns) (A : Asn) (G : Nat → Prop) (D : List (Nat × Value)) (E : List (Nat × Value × Nat)) (a0 : Act),
      XI P ops Q L F its B pre is X A G D E a0 listed a w → Region.ready .any ops listed = [] → Q .normal a w := fun listed a w pre is X A G D E a0 inv h0 => by
    refine xi_finish ok is inv fun i hi => ?_
    cases h : listed.getD i false with
    | true => rfl
    | false => exact absurd h0 (xi_ready ok inv.size hi h)
  induction fuel with
  | zero =>
    intro U listed a w pre is X A G D E a0 inv hU hl
    have hU0 : U = [] := List.length_eq_zero_iff.mp (by omega)
    subst hU0
    have h0 : Region.ready .any ops listed = [] := by
      cases hr : Region.ready .any ops listed with
      | nil => rfl
      | cons j rs =>
        obtain ⟨oj, hoj, hu, _⟩ := ready_lt (ops := ops) (listed := listed) (j := j) (by rw [hr]; exact List.mem_cons_self)
        have hj := (Array.getElem?_eq_some_iff.1 hoj).1
        rw [getD_ft (by rw [inv.size]; exact hj)] at hu
        cases hU j hj hu
    exact ⟨h0, fin _ _ _ _ _ _ _ _ _ _ _ inv h0⟩
  | succ f ih =>
    intro U listed a w pre is X A G D E a0 inv hU hl
    refine ⟨fin _ _ _ _ _ _ _ _ _ _ _ inv, fun j hjr => ?_⟩
    obtain ⟨oj, hoj, hu, hw⟩ := ready_lt hjr
    have hjs := (Array.getElem?_eq_some_iff.1 hoj).1
    have hjl := inv.lt hoj
    rw [getD_ft hjl] at hu
    have hbw : ∀ i, i < ops.size → bw B j i = true → listed.getD i false = true := waitedX ok inv.closed j j (Nat.le_refl _) oj hoj hw
    have hU' : ∀ i, i < ops.size → (listed.setIfInBounds j true).getD i false = false → i ∈ U.erase j := fun i hi hl => by
      rw [getD_put hjl] at hl
      by_cases h : i = j
      · rw [if_pos h] at hl; cases hl
      · rw [if_neg h] at hl
        exact (List.mem_erase_of_ne h).2 (hU i hi hl)
    have hle : (U.erase j).length ≤ f := by
      rw [List.length_erase_of_mem (hU j hjs hu)]; omega
    -- a soft one that the text has passed
    have soft : ∀ {pre is : List It} {X : Anns} {A : Asn} {D : List (Nat × Value)} {E : List (Nat × Value × Nat)} {a0 : Act}, XI P ops Q L F its B pre is X A G D E a0 listed a w → It.soft j ∈ pre → wpOp P ops Q j (wpAny P .any ops Q f (listed.setIfInBounds j true)) a w := fun inv hpre => by
      obtain ⟨v, hs, D', a0', inv'⟩ := xi_doSoft ok inv hoj hu hw hpre
      have next := ih _ _ _ _ _ _ _ _ _ _ _ _ inv' hU' hle
      unfold wpOp
      simp only [hoj]
      split
      · rename_i hwant
        left
        rcases hs with ⟨_, hs⟩ | ⟨h1, _⟩
        · unfold Oper.wp
          rw [hs w (cls_of (inv.good.load _ _ inv.cls))]
          exact next
        · rw [h1] at hwant; cases hwant
      · rename_i hwant
        rcases hs with ⟨h1, _⟩ | ⟨_, rfl⟩
        · exact absurd h1 hwant
        · exact next
    have born : ∀ {pre is : List It} {X : Anns} {A : Asn} {D : List (Nat × Value)} {E : List (Nat × Value × Nat)} {a0 : Act}, XI P ops Q L F its B pre is X A G D E a0 listed a w → It.ann j ∈ pre → wpOp P ops Q j (wpAny P .any ops Q f (listed.setIfInBounds j true)) a w := fun inv hpre => by
      obtain ⟨g, ob, hr, inv'⟩ := xi_doBorn ok inv hoj hu hw hpre
      have next := ih _ _ _ _ _ _ _ _ _ _ _ _ inv' hU' hle
      obtain ⟨o', ho', hgd⟩ := (ok.taken j (by rw [inv.whole]; exact List.mem_append_left _ hpre)).2
      have : o' = oj := Option.some.inj (ho'.symm.trans hoj)
      subst this
      unfold wpOp
      simp only [hoj]
      rw [if_pos (by simp [Region.wanted, hgd])]
      left
      unfold Oper.wp
      rw [hr]
      exact next
    rcases ok.all j hjs with hit | hit | hit
    · rw [inv.whole] at hit
      rcases List.mem_append.1 hit with h | h
      · exact soft inv h
      · obtain ⟨is1, is2, rfl⟩ := List.append_of_mem h
        obtain ⟨pre', X', A', D', E', a0', inv'⟩ := XI.up ok (.inl rfl) is1 inv hu hbw
        obtain ⟨D'', inv''⟩ := XI.passSoft ok inv'
        exact soft inv'' (List.mem_append_right _ List.mem_cons_self)
    · rw [inv.whole] at hit
      rcases List.mem_append.1 hit with h | h
      · have := inv.doneH j (.inl h); rw [hu] at this; cases this
      · obtain ⟨is1, is2, rfl⟩ := List.append_of_mem h
        obtain ⟨pre', X', A', D', E', a0', inv'⟩ := XI.up ok (.inr (.inl rfl)) is1 inv hu hbw
        clear inv
        have hmem : It.hard j ∈ It.hard j :: is2 := List.mem_cons_self
        have hapD : ApartAll ops (tb ops) D' oj := apartAll_of hoj fun d hd => by
          have := pair_of ok inv'.whole (inv'.dpre d hd).1 hmem
          simp only [pairB, Bool.or_eq_true] at this
          rcases this with h | h
          · have := hbw d.1 (inv'.softLt ok hd) h
            rw [(inv'.dpre d hd).2] at this; cases this
          · exact h
        have hapE : ApartAll ops (tb ops) (E'.map fun e => (e.1, e.2.1)) oj := apartAll_of hoj fun d hd => by
          obtain ⟨e, he, rfl⟩ := List.mem_map.1 hd
          obtain ⟨h1, h2, _⟩ := inv'.edo e he
          have h1' : It.take e.1 ∈ is2 := by
            rcases List.mem_cons.1 h1 with h | h
            · cases h
            · exact h
          have := pair_head ok inv'.whole h1'
          simp only [pairB, Bool.or_eq_true] at this
          rcases this with h | h
          · have := inv'.waits ok h2 hjs h
            rw [hu] at this; cases this
          · exact apart2_symm h
        have hs := fun cs b => hselX ok j oj cs b hoj
        obtain ⟨d1, d2⟩ := exec_putAll hs hapD a0'
        obtain ⟨e1, e2⟩ := exec_putAll hs hapE a0'
        obtain ⟨o', ho', htx⟩ := inv'.text
        have : o' = oj := Option.some.inj (ho'.symm.trans hoj)
        subst this
        have hex : execOp a.eval o' = execOp (putAll (tb ops) D' a0').eval o' := by rw [inv'.act, e1, d1]
        have hwt : Region.wanted o' (yielded ops a.tmps) = Region.wanted o' (yielded ops (putAll (tb ops) D' a0').tmps) := by rw [inv'.act, e2, d2]
        unfold wpOp
        simp only [hoj]
        rw [hwt]
        split
        · rename_i hwant
          rw [if_pos hwant] at htx
          refine (htx G w inv'.cls).imp (fun hq => ?_) (fun hq => ⟨by have h1 := hq.1; unfold Oper.asks at h1 ⊢; rw [hex]; exact h1, hq.2⟩)
          have hdfT : (putAll (tb ops) D' a0').defers = a0'.defers := putAll_defers _ _
          have hdfa : a.defers = a0'.defers := by rw [inv'.act]; exact putAll_defers _ _
          unfold Oper.wp at hq ⊢
          rw [hex]
          generalize (execOp (putAll (tb ops) D' a0').eval o').run P w = r at hq ⊢
          have next : ∀ (u : Value) (w' : World) (A'' : Asn) (G' : Nat → Prop), Good L A'' → A'' G' w' → (hasTake is2 = true → Only G w w') → (∀ b, G' b → G b ∨ w.heap.size ≤ b) → wpX P ops Q L F is2 X' A'' ((putAll (tb ops) D' a0').put o'.dst u) →
              wpAny P .any ops Q f (listed.setIfInBounds j true) (a.put o'.dst u) w' := fun u w' A'' G' g1 g2 g3 g4 g5 =>
            ih _ _ _ _ _ _ _ _ _ _ _ _ (xi_hard ok inv' hoj hw hapD hapE u w' A'' G' g1 g2 g3 g4 g5) hU' hle
          cases r with
          | ok nx w' =>
            cases nx <;> simp only [Oper.upon] at hq ⊢
            case value u => obtain ⟨_, A'', G', g1, g2, g3, g4, g5⟩ := hq; exact next u w' A'' G' g1 g2 g3 g4 g5
            case skip => obtain ⟨_, A'', G', g1, g2, g3, g4, g5⟩ := hq; exact next undef w' A'' G' g1 g2 g3 g4 g5
            case defer d =>
              obtain ⟨h0, _⟩ := hq
              rw [put_defers'] at h0
              have := congrArg List.length h0
              simp at this
            case enter g args =>
              refine Calls.mono hq fun e w'' h => ?_
              cases e with
              | returned u => obtain ⟨_, A'', G', g1, g2, g3, g4, g5⟩ := h; exact next u w'' A'' G' g1 g2 g3 g4 g5
              | panicked c => exact h a (by rw [hdfa, hdfT])
              | outgrown => exact outQ_lets h
            case row row args =>
              refine Rows.mono hq fun u w'' h => ?_
              obtain ⟨_, A'', G', g1, g2, g3, g4, g5⟩ := h; exact next u w'' A'' G' g1 g2 g3 g4 g5
          | halt x w' =>
            cases x <;> simp only [Oper.upon] at hq
            case panic u => exact hq a (by rw [hdfa, hdfT])
        · rename_i hwant
          rw [if_neg hwant] at htx
          exact ih _ _ _ _ _ _ _ _ _ _ _ _ (xi_hard ok inv' hoj hw hapD hapE undef w A' G inv'.good inv'.cls (fun _ => Only.refl _ _) (fun b h => .inl h) htx) hU' hle
    · have hann := ok.told j hit
      rw [inv.whole] at hann
      rcases List.mem_append.1 hann with h | h
      · exact born inv h
      · obtain ⟨is1, is2, rfl⟩ := List.append_of_mem h
        obtain ⟨pre', X', A', D', E', a0', inv'⟩ := XI.up ok (.inr (.inr rfl)) is1 inv hu hbw
        obtain ⟨X'', inv''⟩ := XI.passAnn ok inv' hu
        exact born inv'' (List.mem_append_right _ List.mem_cons_self)

/-- **A region that draws its order, with births, by one walk of its items.** -/
theorem wp_region_born {id : Nat} {Q : Exit → Act → World → Prop} {a : Act} {w : World} {l : List Oper} (its : List It) (F : List (Bool × Bool)) (B : List Nat) (L : World → Prop) (A : Asn) (G : Nat → Prop) (hm : P.follows .mixedOrders = true) (hB : okX l.toArray its B = true)
    (hg : Good L A) (hc : A G w.drew) (h : wpX P l.toArray Q L F its [] A a) : (Code.region id l.toArray true).wp P Q a w := by
  have ok := okX_spec hB
  refine wp_region_any hm ?_
  have hz : ∀ i, (Array.replicate l.toArray.size false).getD i false = false := fun i => by
    by_cases h : i < l.length <;> simp [h]
  refine wpX_any ok l.toArray.size (List.range l.toArray.size) _ a _ [] its [] A G [] [] a ⟨rfl, by simp, fun j oj _ h => ?_, rfl, h, fun d hd => (by cases hd), List.Pairwise.nil, List.nodup_nil, fun i hi => (by cases hi), fun i hi => (by rcases hi with h | h <;> cases h), fun i _ => hz i, fun i _ hl => ?_, fun e he => (by cases he), List.nodup_nil, trivial, fun i hi => (by cases hi), hg, hc⟩ (fun i hi _ => List.mem_range.2 hi) (by simp)
  · rw [hz] at h; cases h
  · rw [hz] at hl; cases hl

section
variable {Q : Exit → Act → World → Prop} {L : World → Prop} {F : List (Bool × Bool)} {i : Nat} {is : List It} {X : Anns} {A : Asn} {a : Act} {o : Oper}
theorem bx_pure (ho : ops[i]? = some o) (h : ∀ K : Act → Prop, (∀ a, wpX P ops Q L F is X A a → K a) → if Region.wanted o (yielded ops a.tmps) then ∃ v, (∀ w', (execOp a.eval o).run P w' = .ok (.value v) w') ∧ K (a.put o.dst v) else K (a.put o.dst undef)) :
    wpX P ops Q L F (.soft i :: is) X A a := by
  have := h _ (fun _ h => h)
  split at this
  · rename_i hw; obtain ⟨v, h1, h2⟩ := this; exact ⟨o, v, ho, .inl ⟨hw, fun w' _ => h1 w'⟩, h2⟩
  · rename_i hw; exact ⟨o, undef, ho, .inr ⟨by simpa using hw, rfl⟩, this⟩
theorem bx_load (ho : ops[i]? = some o) (hf : (F.getD i (false, false)).2 = false) (hw : Region.wanted o (yielded ops a.tmps) = true) (h : ∀ K : Act → Prop, (∀ a, wpX P ops Q L F is X A a → K a) → ∃ v, (∀ w', L w' → (execOp a.eval o).run P w' = .ok (.value v) w') ∧ K (a.put o.dst v)) :
    wpX P ops Q L F (.soft i :: is) X A a := by
  obtain ⟨v, h1, h2⟩ := h _ (fun _ h => h)
  refine ⟨o, v, ho, .inl ⟨hw, fun w' hw' => ?_⟩, h2⟩
  rw [hf] at hw'
  exact h1 w' hw'
theorem bx_skip (ho : ops[i]? = some o) (hw : Region.wanted o (yielded ops a.tmps) = false) (h : ∀ K : Act → Prop, (∀ a, wpX P ops Q L F is X A a → K a) → K (a.put o.dst undef)) : wpX P ops Q L F (.soft i :: is) X A a :=
  ⟨o, undef, ho, .inr ⟨hw, rfl⟩, h _ (fun _ h => h)⟩
theorem bx_hardSkip (ho : ops[i]? = some o) (hw : Region.wanted o (yielded ops a.tmps) = false) (h : ∀ K : Act → Prop, (∀ a, wpX P ops Q L F is X A a → K a) → K (a.put o.dst undef)) : wpX P ops Q L F (.hard i :: is) X A a :=
  ⟨o, ho, by rw [if_neg (by rw [hw]; simp)]; exact h _ (fun _ h => h)⟩
theorem bx_ann (ho : ops[i]? = some o) {f : Nat → Value} {ob : Obj} (hr : ∀ w n, L w → w.heap.size = n → (execOp a.eval o).run P w = .ok (.value (f n)) (w.alloc ob)) (h : wpX P ops Q L F is ((i, f, ob) :: X) A a) : wpX P ops Q L F (.ann i :: is) X A a :=
  ⟨o, f, ob, ho, fun w hw => hr w _ hw rfl, h⟩
theorem bx_take (ho : ops[i]? = some o) {f : Nat → Value} {ob : Obj} (hl : look X i = some (f, ob)) (h : ∀ b, ∀ K : Act → Prop, (∀ a, wpX P ops Q L F is X (fun G w => A G w ∧ w.heap[b]? = some ob ∧ ¬ G b) a → K a) → K (a.put o.dst (f b))) : wpX P ops Q L F (.take i :: is) X A a :=
  ⟨o, f, ob, ho, hl, fun b => h b _ (fun _ h => h)⟩
theorem bx_gen (ho : ops[i]? = some o) (hw : Region.wanted o (yielded ops a.tmps) = true) (h : ∀ G w, A G w → ∀ R : Exit → Act → World → Prop,
      (∀ a' w', a'.defers = a.defers → (∃ (A' : Asn) (G' : Nat → Prop), Good L A' ∧ A' G' w' ∧ (hasTake is = true → Only G w w') ∧ (∀ b, G' b → G b ∨ w.heap.size ≤ b) ∧ wpX P ops Q L F is X A' a') → R .normal a' w') →
      (∀ e a' w', e ≠ .normal → (∀ a'', a''.defers = a'.defers → Q e a'' w') → R e a' w') → wpList P ops R [o] a w) : wpX P ops Q L F (.hard i :: is) X A a := by
  refine ⟨o, ho, ?_⟩
  rw [if_pos hw]
  intro G w hA
  have := h G w hA (fun e a' w' => match e with
    | .normal => a'.defers = a.defers ∧ ∃ (A' : Asn) (G' : Nat → Prop), Good L A' ∧ A' G' w' ∧ (hasTake is = true → Only G w w') ∧ (∀ b, G' b → G b ∨ w.heap.size ≤ b) ∧ wpX P ops Q L F is X A' a'
    | e => ∀ a'', a''.defers = a'.defers → Q e a'' w') (fun a' w' h1 h2 => ⟨h1, h2⟩) (fun e a' w' he hq => by cases e <;> first | exact absurd rfl he | exact hq)
  simp only [wpList] at this
  rw [if_pos hw] at this
  refine this.imp (fun this => ?_) (fun h => ⟨h.1, ?_⟩)
  · unfold Oper.wp at this ⊢
    generalize (execOp a.eval o).run P w = r at this ⊢
    cases r with
    | ok nx w' => cases nx <;> simp only [Oper.upon] at this ⊢ <;> exact this
    | halt x w' => cases x <;> simp only [Oper.upon] at this ⊢ <;> exact this
  · obtain ⟨_, a, w, h⟩ := h; exact ⟨a, w, h a rfl⟩
theorem bx_one (ho : ops[i]? = some o) (hw : Region.wanted o (yielded ops a.tmps) = true) (h : ∀ G w, A G w → ∀ R : Exit → Act → World → Prop,
      (∀ a' w', a'.defers = a.defers → (∃ (A' : Asn) (G' : Nat → Prop), Good L A' ∧ A' G' w' ∧ Only G w w' ∧ (∀ b, G' b → G b ∨ w.heap.size ≤ b) ∧ wpX P ops Q L F is X A' a') → R .normal a' w') →
      (∀ e a' w', e ≠ .normal → (∀ a'', a''.defers = a'.defers → Q e a'' w') → R e a' w') → wpList P ops R [o] a w) : wpX P ops Q L F (.hard i :: is) X A a :=
  bx_gen ho hw fun G w hA R h1 h2 => h G w hA R (fun a' w' hd ⟨A', G', x1, x2, x3, x4, x5⟩ => h1 a' w' hd ⟨A', G', x1, x2, fun _ => x3, x4, x5⟩) h2
/-- .. where no birth is to be taken any more -/
theorem bx_last (ht : hasTake is = false) (ho : ops[i]? = some o) (hw : Region.wanted o (yielded ops a.tmps) = true) (h : ∀ G w, A G w → ∀ R : Exit → Act → World → Prop,
      (∀ a' w', a'.defers = a.defers → (∃ (A' : Asn) (G' : Nat → Prop), Good L A' ∧ A' G' w' ∧ (∀ b, G' b → G b ∨ w.heap.size ≤ b) ∧ wpX P ops Q L F is X A' a') → R .normal a' w') →
      (∀ e a' w', e ≠ .normal → (∀ a'', a''.defers = a'.defers → Q e a'' w') → R e a' w') → wpList P ops R [o] a w) : wpX P ops Q L F (.hard i :: is) X A a :=
  bx_gen ho hw fun G w hA R h1 h2 => h G w hA R (fun a' w' hd ⟨A', G', x1, x2, x4, x5⟩ => h1 a' w' hd ⟨A', G', x1, x2, fun h => by rw [ht] at h; (cases h), x4, x5⟩) h2
theorem bx_done (h : ∀ G w, A G w → Q .normal a w) : wpX P ops Q L F [] X A a := h
end
end
/-- these blocks hold what they hold -/
def Held (K : List (Nat × Obj)) (w : World) : Prop := ∀ x ∈ K, w.heap[x.1]? = some x.2
theorem Held.below {K : List (Nat × Obj)} {w w' : World} (h : Held K w) (hb : Below w.heap.size w w') : Held K w' := fun x hx => heap_keep hb (h x hx)
theorem Held.only {S : Nat → Prop} {K : List (Nat × Obj)} {w w' : World} (h : Held K w) (hO : Only S w w') (hS : ∀ x ∈ K, ¬ S x.1) : Held K w' := fun x hx => hO.at (h x hx) (hS x hx)
theorem Held.cell {K : List (Nat × Obj)} {w : World} {b t : Nat} {cs : Array Value} {fz : Nat × Nat} (h : Held K w) (hm : (b, Obj.cells cs t fz) ∈ K) (j : Nat) (u : Value) (hj : cs[j]? = some u) : w.cell? ⟨b, j, none⟩ = some u := cells_at (h _ hm) j u hj
/-- blocks that are held, while only new ones are made; what is born is new -/
def BornA (K : List (Nat × Obj)) (B0 : Nat) (R : World → Prop) : Asn := fun G w => Held K w ∧ G = (fun b => b < B0) ∧ B0 ≤ w.heap.size ∧ R w
theorem BornA.good {K : List (Nat × Obj)} {B0 : Nat} {R : World → Prop} (h : ∀ w o, B0 ≤ w.heap.size → R w → R (w.alloc o)) : Good (Held K) (BornA K B0 R) := by
  refine ⟨fun G w o hA => ⟨hA.1.below ((Below.refl w.heap.size w).alloc (Nat.le_refl _) o), hA.2.1, by simp; have := hA.2.2.1; omega, h w o hA.2.2.1 hA.2.2.2⟩, fun G w hA => hA.1, fun G w b hA hb => ?_⟩
  have h1 := hA.2.1
  have h2 := hA.2.2.1
  subst h1
  have : b < B0 := hb
  omega
end Go.Proofs.Ytogejjbclimjjaa
