/- A region that draws its order, walked once in the order of its text: operations that only yield ('soft': a copy, a sum, an address, a load) and operations that turn the world ('hard': a call, a store, an append, a new block), the hard ones forced one behind the other. No program in sight. -/
import Derived.Test.YtogejjbclimjjaaKit
import Derived.Orders
namespace Go.Proofs.Ytogejjbclimjjaa
set_option linter.unusedVariables false
set_option linter.unusedSimpArgs false

section
variable {P : Program}

/-- the operations that one waits for -/
def waits (o : Oper) : List Nat := (o.after.toList.filter fun e => Region.binds .any e).map (·.on)
theorem waits_mem {o : Oper} {k : Nat} : k ∈ waits o ↔ ∃ e ∈ o.after, Region.binds .any e = true ∧ e.on = k := by
  simp only [waits, List.mem_map, List.mem_filter, Array.mem_toList_iff]
  constructor
  · rintro ⟨e, ⟨h1, h2⟩, h3⟩; exact ⟨e, h1, h2, h3⟩
  · rintro ⟨e, h1, h2, h3⟩; exact ⟨e, ⟨h1, h2⟩, h3⟩

/-- an exit ahead of the end, whatever the slots hold -/
def outQ (Q : Exit → Act → World → Prop) : Exit → Act → World → Prop := fun e a w => ∀ a', a'.defers = a.defers → Q e a' w
theorem outQ_lets {Q : Exit → Act → World → Prop} (h : LetsOut (outQ Q)) : LetsOut Q := by obtain ⟨a, w, h⟩ := h; exact ⟨a, w, h a rfl⟩

/-- what is asked of a soft operation: one value in every world of the class, which it leaves as it is -/
def softAt (P : Program) (ops : Array Oper) (o : Oper) (C : World → Prop) (v : Value) (a : Act) : Prop :=
  (Region.wanted o (yielded ops a.tmps) = true ∧ ∀ w', C w' → (execOp a.eval o).run P w' = .ok (.value v) w') ∨ (Region.wanted o (yielded ops a.tmps) = false ∧ v = undef)

/-- in which worlds a soft operation is to yield: a pure one in all, a load in those of the class -/
def cls (b : Bool) (C : World → Prop) : World → Prop := if b then fun _ => True else C
theorem cls_of {b : Bool} {C : World → Prop} {w : World} (h : C w) : cls b C w := by cases b; exact h; trivial
/-- the walk in the order of the text; of each operation: is it soft; a soft one: is it pure; a hard one: may loads still be pending -/
def wpMix (P : Program) (ops : Array Oper) (Q : Exit → Act → World → Prop) : List (Bool × Bool) → List Oper → (World → Prop) → Act → World → Prop
  | (true, b) :: fs, o :: rest, C, a, w => ∃ v, softAt P ops o (cls b C) v a ∧ wpMix P ops Q fs rest C (a.put o.dst v) w
  | (false, keep) :: fs, o :: rest, C, a, w =>
    if Region.wanted o (yielded ops a.tmps) then o.wp P a w (fun a' w' => a'.defers = a.defers ∧ ∃ C' : World → Prop, C' w' ∧ (keep = true → C' = C) ∧ wpMix P ops Q fs rest C' a' w') (outQ Q) ∨ (o.asks P a w ∧ LetsOut Q)
    else wpMix P ops Q fs rest C (a.put o.dst undef) w
  | _, [], _, a, w => Q .normal a w
  | [], _ :: _, _, _, _ => False

/-- the operation at a place of an order -/
def atPlace (ops : Array Oper) (perm : List Nat) (p : Nat) : Option Oper := (perm[p]?).bind (ops[·]?)

/-- the closed look at a region: 'perm': the order in which it is walked; 'F': what each is, in that order; 'B': of each operation the set of those that it waits for, through others too -/
def mixOk (ops : Array Oper) (perm : List Nat) (F : List (Bool × Bool)) (B : List Nat) : Bool :=
  Region.noSelect ops && F.length == ops.size && perm.length == ops.size &&
  ((List.range ops.size).all fun j => perm.contains j) && (perm.all fun i => decide (i < ops.size)) &&
  ((List.range ops.size).all fun j => match ops[j]? with
    | none => true
    | some oj => (waits oj).all (fun k => decide (k < j)) &&
      (List.range ops.size).all fun i => !(B.getD j 0).testBit i || (waits oj).contains i || (waits oj).any fun k => (B.getD k 0).testBit i) &&
  (List.range ops.size).all fun q => (List.range ops.size).all fun p => !decide (p < q) ||
    (perm.getD p 0 != perm.getD q 0 && ((B.getD (perm.getD q 0) 0).testBit (perm.getD p 0) ||
      (match atPlace ops perm p, atPlace ops perm q with
        | some oi, some oj => Oper.apart ops oi oj && (F.getD p (false, false)).1 && ((F.getD q (false, false)).1 || (F.getD q (false, false)).2 || (F.getD p (false, false)).2)
        | _, _ => false)))

structure MixOk (ops : Array Oper) (perm : List Nat) (F : List (Bool × Bool)) (B : List Nat) : Prop where
  sel : Region.noSelect ops = true
  len : F.length = ops.size
  plen : perm.length = ops.size
  onto : ∀ j, j < ops.size → j ∈ perm
  bound : ∀ j ∈ perm, j < ops.size
  up : ∀ j oj, ops[j]? = some oj → ∀ k ∈ waits oj, k < j
  wait : ∀ j oj, ops[j]? = some oj → ∀ i, i < ops.size → (B.getD j 0).testBit i = true → i ∈ waits oj ∨ ∃ k ∈ waits oj, (B.getD k 0).testBit i = true
  inj : ∀ p q, p < q → q < ops.size → perm.getD p 0 ≠ perm.getD q 0
  free : ∀ p q oi oj, p < q → q < ops.size → atPlace ops perm p = some oi → atPlace ops perm q = some oj → (B.getD (perm.getD q 0) 0).testBit (perm.getD p 0) = false →
    Oper.apart ops oi oj = true ∧ (F.getD p (false, false)).1 = true ∧ ((F.getD q (false, false)).1 = true ∨ (F.getD q (false, false)).2 = true ∨ (F.getD p (false, false)).2 = true)

theorem mixOk_spec {ops : Array Oper} {perm : List Nat} {F : List (Bool × Bool)} {B : List Nat} (h : mixOk ops perm F B = true) : MixOk ops perm F B := by
  simp only [mixOk, Bool.and_eq_true, beq_iff_eq, List.all_eq_true, List.mem_range, List.contains_iff_mem] at h
  obtain ⟨⟨⟨⟨⟨⟨h1, h2⟩, h3⟩, h4⟩, h4'⟩, h5⟩, h6⟩ := h
  have hj : ∀ j oj, ops[j]? = some oj → j < ops.size := fun j oj h => (Array.getElem?_eq_some_iff.1 h).1
  have h7 : ∀ p q, p < q → q < ops.size → _ := fun p q hpq hq => by
    have := h6 q hq p (by omega)
    rw [decide_eq_true hpq] at this
    simp only [Bool.not_true, Bool.false_or, Bool.and_eq_true, bne_iff_ne] at this
    exact this
  refine ⟨h1, h2, h3, h4, fun j hj => by simpa using h4' j hj, fun j oj ho k hk => ?_, fun j oj ho i hi hb => ?_, fun p q hpq hq => (h7 p q hpq hq).1, fun p q oi oj hpq hq hoi hoj hb => ?_⟩
  · have := h5 j (hj j oj ho)
    rw [ho] at this
    simp only [Bool.and_eq_true, List.all_eq_true, decide_eq_true_eq] at this
    exact this.1 k hk
  · have := h5 j (hj j oj ho)
    rw [ho] at this
    simp only [Bool.and_eq_true, List.all_eq_true, List.mem_range] at this
    have := this.2 i hi
    simp only [Bool.or_eq_true, Bool.not_eq_true', hb, Bool.true_eq_false, false_or, List.contains_iff_mem, List.any_eq_true] at this
    exact this
  · have := (h7 p q hpq hq).2
    rw [hoi, hoj, hb] at this
    simp only [Bool.false_or, Bool.and_eq_true, Bool.or_eq_true] at this
    exact ⟨this.1.1, this.1.2, this.2.elim (fun h => h.elim .inl (fun h => .inr (.inl h))) (fun h => .inr (.inr h))⟩

/-- the soft operations that the text has passed and the run has not -/
def putAll (tab : Nat → Option Oper) (D : List (Nat × Value)) (a : Act) : Act := D.foldl (fun a d => a.put ((tab d.1).bind (·.dst)) d.2) a
theorem putAll_append (tab : Nat → Option Oper) (D E : List (Nat × Value)) (a : Act) : putAll tab (D ++ E) a = putAll tab E (putAll tab D a) := by simp [putAll, List.foldl_append]
theorem putAll_cons (tab : Nat → Option Oper) (d : Nat × Value) (D : List (Nat × Value)) (a : Act) : putAll tab (d :: D) a = putAll tab D (a.put ((tab d.1).bind (·.dst)) d.2) := rfl


def ApartAll (ops : Array Oper) (tab : Nat → Option Oper) (D : List (Nat × Value)) (o : Oper) : Prop := ∀ d ∈ D, ∀ ok, tab d.1 = some ok → Oper.apart ops ok o = true

variable {ops : Array Oper} {tab : Nat → Option Oper}

theorem dst_apart {d : Nat} {o : Oper} (h : ∀ ok, tab d = some ok → Oper.apart ops ok o = true) :
    (∀ t, (tab d).bind (·.dst) = some t → t ∉ o.looksAt ops) ∧ (∀ t, (tab d).bind (·.dst) = some t → o.dst ≠ some t) := by
  cases hd : tab d with
  | none => simp
  | some ok =>
    obtain ⟨h1, h2, _⟩ := Oper.apart_spec (h ok hd)
    exact ⟨fun t ht => h1 t (by simpa using ht), fun t ht => h2 t (by simpa using ht)⟩

theorem exec_putAll {D : List (Nat × Value)} {o : Oper} (hs : ∀ cs b, o.op ≠ .select cs b) (h : ApartAll ops tab D o) (a : Act) :
    execOp (putAll tab D a).eval o = execOp a.eval o ∧ Region.wanted o (yielded ops (putAll tab D a).tmps) = Region.wanted o (yielded ops a.tmps) := by
  induction D generalizing a with
  | nil => exact ⟨rfl, rfl⟩
  | cons d D ih =>
    obtain ⟨e1, e2⟩ := ih (fun x hx => h x (List.mem_cons_of_mem _ hx)) (a.put ((tab d.1).bind (·.dst)) d.2)
    have hd := (dst_apart (h d List.mem_cons_self)).1
    rw [putAll_cons, e1, e2]
    exact ⟨execOp_put o hs a _ d.2 hd, wanted_put o a _ d.2 hd⟩

theorem putAll_put {D : List (Nat × Value)} {o : Oper} (h : ApartAll ops tab D o) (a : Act) (u : Value) : putAll tab D (a.put o.dst u) = (putAll tab D a).put o.dst u := by
  induction D generalizing a with
  | nil => rfl
  | cons d D ih =>
    rw [putAll_cons, putAll_cons, ← ih (fun x hx => h x (List.mem_cons_of_mem _ hx))]
    congr 1
    exact (Act.put_comm a d.2 u (dst_apart (h d List.mem_cons_self)).2).symm

theorem putAll_defers (D : List (Nat × Value)) (a : Act) : (putAll tab D a).defers = a.defers := by
  induction D generalizing a with
  | nil => rfl
  | cons d D ih =>
    rw [putAll_cons, ih]
    cases (tab d.1).bind (·.dst) <;> rfl
theorem put_defers' (a : Act) (x : Option Tmp) (u : Value) : (a.put x u).defers = a.defers := by cases x <;> rfl

def PendOk (P : Program) (ops : Array Oper) (tab : Nat → Option Oper) (F : List (Bool × Bool)) (C : World → Prop) : List (Nat × Value) → Act → Prop
  | [], _ => True
  | (i, v) :: D, a => (∀ oi, tab i = some oi → softAt P ops oi (cls (F.getD i (false, false)).2 C) v a) ∧ PendOk P ops tab F C D (a.put ((tab i).bind (·.dst)) v)

variable {C : World → Prop} {F : List (Bool × Bool)}

theorem softAt_of {o : Oper} {a a' : Act} {v : Value} (he : execOp a'.eval o = execOp a.eval o) (hw : Region.wanted o (yielded ops a'.tmps) = Region.wanted o (yielded ops a.tmps)) (h : softAt P ops o C v a) : softAt P ops o C v a' := by
  unfold softAt at *; rw [he, hw]; exact h

theorem pend_append {D : List (Nat × Value)} {n : Nat} {v : Value} {a : Act} (h : PendOk P ops tab F C D a) (hv : ∀ oi, tab n = some oi → softAt P ops oi (cls (F.getD n (false, false)).2 C) v (putAll tab D a)) : PendOk P ops tab F C (D ++ [(n, v)]) a := by
  induction D generalizing a with
  | nil => exact ⟨hv, trivial⟩
  | cons d D ih => exact ⟨h.1, ih h.2 hv⟩

theorem pend_pure {C' : World → Prop} {D : List (Nat × Value)} {a : Act} (hp : ∀ d ∈ D, (F.getD d.1 (false, false)).2 = true) (h : PendOk P ops tab F C D a) : PendOk P ops tab F C' D a := by
  induction D generalizing a with
  | nil => trivial
  | cons d D ih =>
    refine ⟨fun oi hoi => ?_, ih (fun x hx => hp x (List.mem_cons_of_mem _ hx)) h.2⟩
    have := h.1 oi hoi
    rw [hp d List.mem_cons_self] at this ⊢
    exact this

theorem pend_put (hsel : ∀ (j : Nat) (o : Oper) cs b, tab j = some o → o.op ≠ .select cs b) {D : List (Nat × Value)} {o : Oper} (hap : ApartAll ops tab D o) {a : Act} (u : Value) (h : PendOk P ops tab F C D a) : PendOk P ops tab F C D (a.put o.dst u) := by
  induction D generalizing a with
  | nil => trivial
  | cons d D ih =>
    obtain ⟨i, v⟩ := d
    refine ⟨fun oi hoi => ?_, ?_⟩
    · have h3 := (Oper.apart_spec (hap (i, v) List.mem_cons_self oi hoi)).2.2
      exact softAt_of (execOp_put oi (fun cs b => hsel i oi cs b hoi) a o.dst u h3) (wanted_put oi a o.dst u h3) (h.1 oi hoi)
    · rw [← Act.put_comm a v u (dst_apart (hap (i, v) List.mem_cons_self)).2]
      exact ih (fun x hx => hap x (List.mem_cons_of_mem _ hx)) h.2

theorem pend_remove (hsel : ∀ (j : Nat) (o : Oper) cs b, tab j = some o → o.op ≠ .select cs b) {D1 D2 : List (Nat × Value)} {j : Nat} {v : Value} {oj : Oper} (hoj : tab j = some oj) (hap : ApartAll ops tab D1 oj) {a : Act} (h : PendOk P ops tab F C (D1 ++ (j, v) :: D2) a) :
    softAt P ops oj (cls (F.getD j (false, false)).2 C) v a ∧ PendOk P ops tab F C (D1 ++ D2) (a.put oj.dst v) ∧ putAll tab (D1 ++ D2) (a.put oj.dst v) = putAll tab (D1 ++ (j, v) :: D2) a := by
  have hdj : (tab j).bind (·.dst) = oj.dst := by rw [hoj]; rfl
  induction D1 generalizing a with
  | nil =>
    refine ⟨h.1 oj hoj, ?_, ?_⟩
    · have := h.2; rwa [hdj] at this
    · show putAll tab D2 _ = putAll tab ((j, v) :: D2) a
      rw [putAll_cons, hdj]
  | cons d D1 ih =>
    obtain ⟨i, u⟩ := d
    obtain ⟨s1, s2, s3⟩ := ih (fun x hx => hap x (List.mem_cons_of_mem _ hx)) h.2
    have hd := hap (i, u) List.mem_cons_self
    have hc := (dst_apart hd).2
    have hl := (dst_apart hd).1
    refine ⟨softAt_of (execOp_put oj (fun cs b => hsel j oj cs b hoj) a _ u hl).symm (wanted_put oj a _ u hl).symm s1, ⟨fun oi hoi => ?_, ?_⟩, ?_⟩
    · have h3 := (Oper.apart_spec (hd oi hoi)).2.2
      exact softAt_of (execOp_put oi (fun cs b => hsel i oi cs b hoi) a oj.dst v h3) (wanted_put oi a oj.dst v h3) (h.1 oi hoi)
    · rw [← Act.put_comm a u v hc]; exact s2
    · show putAll tab ((i, u) :: (D1 ++ D2)) _ = putAll tab ((i, u) :: (D1 ++ (j, v) :: D2)) a
      rw [putAll_cons, putAll_cons, ← Act.put_comm a u v hc]
      exact s3


theorem waited {perm : List Nat} {F : List (Bool × Bool)} {B : List Nat} (ok : MixOk ops perm F B) {listed : Array Bool}
    (closed : ∀ j oj, ops[j]? = some oj → listed.getD j false = true → ∀ k ∈ waits oj, listed.getD k false = true) :
    ∀ (m j : Nat), j ≤ m → ∀ oj, ops[j]? = some oj → (∀ k ∈ waits oj, listed.getD k false = true) → ∀ i, i < ops.size → (B.getD j 0).testBit i = true → listed.getD i false = true := by
  intro m
  induction m with
  | zero =>
    intro j hj oj ho hw i hi hb
    rcases ok.wait j oj ho i hi hb with h | ⟨k, hk, _⟩
    · exact hw i h
    · have := ok.up j oj ho k hk; omega
  | succ m ih =>
    intro j hj oj ho hw i hi hb
    rcases ok.wait j oj ho i hi hb with h | ⟨k, hk, hb'⟩
    · exact hw i h
    · have hkj := ok.up j oj ho k hk
      have hks : k < ops.size := by have := (Array.getElem?_eq_some_iff.1 ho).1; omega
      obtain ⟨ok', hok'⟩ : ∃ o, ops[k]? = some o := ⟨_, Array.getElem?_eq_getElem hks⟩
      exact ih k (by omega) ok' hok' (fun x hx => closed k ok' hok' (hw k hk) x hx) i hi hb'

theorem getD_ft {l : Array Bool} {i : Nat} (hi : i < l.size) : l.getD i true = l.getD i false := by simp [hi]
theorem getD_put {l : Array Bool} {i j : Nat} (hj : j < l.size) : (l.setIfInBounds j true).getD i false = if i = j then true else l.getD i false := by
  by_cases h : i = j
  · subst h; simp [hj]
  · rw [if_neg h]
    simp only [Array.getD_eq_getD_getElem?]
    rw [Array.getElem?_setIfInBounds_ne (Ne.symm h)]

theorem place_of {perm : List Nat} {F : List (Bool × Bool)} {B : List Nat} (ok : MixOk ops perm F B) {j : Nat} (hj : j < ops.size) : ∃ p, p < ops.size ∧ perm.getD p 0 = j ∧ atPlace ops perm p = ops[j]? := by
  obtain ⟨p, hp, he⟩ := List.getElem_of_mem (ok.onto j hj)
  refine ⟨p, by rw [← ok.plen]; exact hp, ?_, ?_⟩
  · simp [List.getD, hp, he]
  · simp [atPlace, hp, he]
theorem at_place {perm : List Nat} {F : List (Bool × Bool)} {B : List Nat} (ok : MixOk ops perm F B) {p : Nat} (hp : p < ops.size) : ∃ o, perm[p]? = some (perm.getD p 0) ∧ ops[perm.getD p 0]? = some o ∧ atPlace ops perm p = some o := by
  have hpl : p < perm.length := by rw [ok.plen]; exact hp
  have e : perm.getD p 0 = perm[p] := by simp [List.getD, hpl]
  have hb : perm[p] < ops.size := ok.bound _ (List.getElem_mem hpl)
  refine ⟨ops[perm[p]], ?_, ?_, ?_⟩
  · rw [e]; exact List.getElem?_eq_getElem hpl
  · rw [e]; exact Array.getElem?_eq_getElem hb
  · simp [atPlace, hpl, hb]
theorem place_at {perm : List Nat} {p : Nat} {o : Oper} (h : atPlace ops perm p = some o) : ops[perm.getD p 0]? = some o := by
  unfold atPlace at h
  cases hp : perm[p]? with
  | none => rw [hp] at h; cases h
  | some i => rw [hp] at h; simp only [List.getD, hp]; exact h
theorem perm_inj {perm : List Nat} {F : List (Bool × Bool)} {B : List Nat} (ok : MixOk ops perm F B) {p q : Nat} (hp : p < ops.size) (hq : q < ops.size) (h : perm.getD p 0 = perm.getD q 0) : p = q := by
  rcases Nat.lt_trichotomy p q with h1 | h1 | h1
  · exact absurd h (ok.inj p q h1 hq)
  · exact h1
  · exact absurd h.symm (ok.inj q p h1 hp)

/-- where a run stands against the text -/
structure MixInv (P : Program) (ops : Array Oper) (perm : List Nat) (F : List (Bool × Bool)) (C : World → Prop) (n : Nat) (D : List (Nat × Value)) (listed : Array Bool) (a : Act) (w : World) : Prop where
  size : listed.size = ops.size
  le : n ≤ ops.size
  closed : ∀ j oj, ops[j]? = some oj → listed.getD j false = true → ∀ k ∈ waits oj, listed.getD k false = true
  done : ∀ p, p < n → listed.getD (perm.getD p 0) false = true ∨ ∃ v, (p, v) ∈ D
  fresh : ∀ p, n ≤ p → p < ops.size → listed.getD (perm.getD p 0) false = false
  pend : ∀ d ∈ D, d.1 < n ∧ listed.getD (perm.getD d.1 0) false = false
  sorted : (D.map (·.1)).Pairwise (· < ·)
  yields : PendOk P ops (atPlace ops perm) F C D a
  cls : C w

theorem ready_lt {listed : Array Bool} {j : Nat} (h : j ∈ Region.ready .any ops listed) : ∃ oj, ops[j]? = some oj ∧ listed.getD j true = false ∧ ∀ k ∈ waits oj, listed.getD k false = true := by
  obtain ⟨h1, o, ho, h2⟩ := mem_ready.1 h
  exact ⟨o, ho, h1, fun k hk => by obtain ⟨e, he, hb, rfl⟩ := waits_mem.1 hk; exact h2 e he hb⟩

theorem some_ready {perm : List Nat} {F : List (Bool × Bool)} {B : List Nat} (ok : MixOk ops perm F B) {listed : Array Bool} (hsz : listed.size = ops.size) {m : Nat} (hm : m < ops.size) (hu : listed.getD m false = false) : Region.ready .any ops listed ≠ [] := by
  induction m using Nat.strongRecOn with
  | _ m ih =>
    obtain ⟨o, ho⟩ : ∃ o, ops[m]? = some o := ⟨_, Array.getElem?_eq_getElem hm⟩
    by_cases hall : ∀ k ∈ waits o, listed.getD k false = true
    · intro h0
      have : m ∈ Region.ready .any ops listed := mem_ready.2 ⟨by rw [getD_ft (by omega)]; exact hu, o, ho, fun e he hb => hall _ (waits_mem.2 ⟨e, he, hb, rfl⟩)⟩
      rw [h0] at this; cases this
    · have : ∃ k, k ∈ waits o ∧ listed.getD k false = false := by
        apply Classical.byContradiction
        intro hn
        exact hall fun k hk => by
          cases hb : listed.getD k false with
          | true => rfl
          | false => exact absurd ⟨k, hk, hb⟩ hn
      obtain ⟨k, hk, hb⟩ := this
      have := ok.up m o ho k hk
      exact ih k this (by omega) hb

theorem MixInv.set {perm : List Nat} {F : List (Bool × Bool)} {B : List Nat} (ok : MixOk ops perm F B) {C' : World → Prop} {n n' : Nat} {D D' : List (Nat × Value)} {listed : Array Bool} {a a' : Act} {w w' : World} (inv : MixInv P ops perm F C n D listed a w) {q : Nat} {oj : Oper} (hq : q < ops.size) (hoj : ops[perm.getD q 0]? = some oj) (hw : ∀ k ∈ waits oj, listed.getD k false = true)
    (hle : n' ≤ ops.size) (hjn : q < n') (hnn : n ≤ n') (hdone : ∀ i, i < n' → i ≠ q → listed.getD (perm.getD i 0) false = true ∨ ∃ v, (i, v) ∈ D') (hpend : ∀ d ∈ D', d.1 < n' ∧ listed.getD (perm.getD d.1 0) false = false ∧ d.1 ≠ q) (hs : (D'.map (·.1)).Pairwise (· < ·)) (hy : PendOk P ops (atPlace ops perm) F C' D' a') (hc : C' w') :
    MixInv P ops perm F C' n' D' (listed.setIfInBounds (perm.getD q 0) true) a' w' := by
  have hjs : perm.getD q 0 < listed.size := by rw [inv.size]; exact (Array.getElem?_eq_some_iff.1 hoj).1
  refine ⟨by simp [inv.size], hle, fun i oi hoi hl k hk => ?_, fun i hi => ?_, fun i hi hi2 => ?_, fun d hd => ?_, hs, hy, hc⟩
  · rw [getD_put hjs] at hl ⊢
    split
    · rfl
    · by_cases hij : i = perm.getD q 0
      · subst hij
        have : oi = oj := Option.some.inj (hoi.symm.trans hoj)
        subst this
        exact hw k hk
      · rw [if_neg hij] at hl; exact inv.closed i oi hoi hl k hk
  · rw [getD_put hjs]
    split
    · exact .inl rfl
    · rename_i hij; exact hdone i hi (fun h => hij (by rw [h]))
  · rw [getD_put hjs, if_neg (fun h => by have := perm_inj ok hi2 hq h; omega)]; exact inv.fresh i (by omega) hi2
  · obtain ⟨h1, h2, h3⟩ := hpend d hd
    exact ⟨h1, by rw [getD_put hjs, if_neg (fun h => h3 (perm_inj ok (by omega) hq h))]; exact h2⟩

/-- the operations in the order in which they are walked -/
def pickL (l : List Oper) (perm : List Nat) : List Oper := perm.map fun i => l.getD i ⟨none, .move (.const undef), 0, "", #[], none⟩
theorem pickL_drop {perm : List Nat} {l : List Oper} {n i : Nat} {o : Oper} (hp : perm[n]? = some i) (ho : l[i]? = some o) : (pickL l perm).drop n = o :: (pickL l perm).drop (n + 1) := by
  obtain ⟨hn, he⟩ := List.getElem?_eq_some_iff.1 hp
  have hl : n < (pickL l perm).length := by simpa [pickL] using hn
  rw [List.drop_eq_getElem_cons hl]
  congr 1
  simp [pickL, he, List.getD, ho]

theorem mix_any {perm : List Nat} {F : List (Bool × Bool)} {B : List Nat} {Q : Exit → Act → World → Prop} (ok : MixOk ops perm F B) : ∀ (fuel n : Nat) (D : List (Nat × Value)) (listed : Array Bool) (a : Act) (w : World) (C : World → Prop),
    MixInv P ops perm F C n D listed a w → fuel = (ops.size - n) + D.length → wpMix P ops Q (F.drop n) ((pickL ops.toList perm).drop n) C (putAll (atPlace ops perm) D a) w → wpAny P .any ops Q fuel listed a w := by
  have hsel0 := Region.noSelect_spec ok.sel
  have hsel : ∀ (p : Nat) (o : Oper) cs b, atPlace ops perm p = some o → o.op ≠ .select cs b := fun p o cs b h => hsel0 _ o cs b (place_at h)
  have hplen : (pickL ops.toList perm).length = ops.size := by simp [pickL, ok.plen]
  intro fuel
  induction fuel with
  | zero =>
    intro n D listed a w C inv hf hw
    have hD : D = [] := List.length_eq_zero_iff.mp (by omega)
    subst hD
    have hn : n = ops.size := by have := inv.le; omega
    subst hn
    refine ⟨?_, ?_⟩
    · cases hr : Region.ready .any ops listed with
      | nil => rfl
      | cons j rs =>
        obtain ⟨oj, hoj, hu, _⟩ := ready_lt (ops := ops) (listed := listed) (j := j) (by rw [hr]; exact List.mem_cons_self)
        have hj := (Array.getElem?_eq_some_iff.1 hoj).1
        rw [getD_ft (by rw [inv.size]; exact hj)] at hu
        obtain ⟨p, hp, he, _⟩ := place_of ok hj
        rcases inv.done p hp with h | ⟨v, h⟩
        · rw [he, hu] at h; cases h
        · cases h
    · have e1 : (pickL ops.toList perm).drop ops.size = [] := by simp [hplen]
      rw [e1] at hw
      cases hF : F.drop ops.size with
      | nil => rw [hF] at hw; exact hw
      | cons f fs => rw [hF] at hw; obtain ⟨s, k⟩ := f; cases s <;> exact hw
  | succ f ih =>
    -- a soft operation that the text has passed comes up
    have pendcase : ∀ (n : Nat) (D : List (Nat × Value)) (listed : Array Bool) (a : Act) (w : World) (C : World → Prop), MixInv P ops perm F C n D listed a w → f + 1 = (ops.size - n) + D.length →
        wpMix P ops Q (F.drop n) ((pickL ops.toList perm).drop n) C (putAll (atPlace ops perm) D a) w → ∀ p, p < n → perm.getD p 0 ∈ Region.ready .any ops listed → wpOp P ops Q (perm.getD p 0) (wpAny P .any ops Q f (listed.setIfInBounds (perm.getD p 0) true)) a w := by
      intro n D listed a w C inv hf hw p hpn hj
      obtain ⟨oj, hoj, hu, hwj⟩ := ready_lt hj
      have hjs := (Array.getElem?_eq_some_iff.1 hoj).1
      have hps : p < ops.size := by have := inv.le; omega
      have hop : atPlace ops perm p = some oj := by
        have hpl : p < perm.length := by rw [ok.plen]; exact hps
        have : perm.getD p 0 = perm[p] := by simp [List.getD, hpl]
        rw [this] at hoj
        simp [atPlace, hpl, hoj]
      rw [getD_ft (by rw [inv.size]; exact hjs)] at hu
      rcases inv.done p hpn with h | ⟨v, h⟩
      · rw [h] at hu; cases hu
      obtain ⟨s, t, rfl⟩ := List.append_of_mem h
      have hsort := inv.sorted
      simp only [List.map_append, List.map_cons, List.pairwise_append, List.pairwise_cons, List.mem_map, List.mem_cons] at hsort
      obtain ⟨hs1, ⟨hs2, hs3⟩, hs4⟩ := hsort
      have hlt : ∀ d ∈ s, d.1 < p := fun d hd => hs4 d.1 ⟨d, hd, rfl⟩ p (.inl rfl)
      have hgt : ∀ d ∈ t, p < d.1 := fun d hd => hs2 d.1 ⟨d, hd, rfl⟩
      have hap : ApartAll ops (atPlace ops perm) s oj := fun d hd od hod => by
        refine (ok.free d.1 p od oj (hlt d hd) hps hod hop ?_).1
        cases hb : (B.getD (perm.getD p 0) 0).testBit (perm.getD d.1 0) with
        | false => rfl
        | true =>
          have h1 := waited ok inv.closed _ _ (Nat.le_refl _) oj hoj hwj (perm.getD d.1 0) (Array.getElem?_eq_some_iff.1 (place_at hod)).1 hb
          rw [(inv.pend d (by simp [hd])).2] at h1; cases h1
      obtain ⟨s1, s2, s3⟩ := pend_remove hsel hop hap inv.yields
      have inv' : MixInv P ops perm F C n (s ++ t) (listed.setIfInBounds (perm.getD p 0) true) (a.put oj.dst v) w := by
        refine inv.set ok hps hoj hwj inv.le hpn (Nat.le_refl _) (fun i hi hij => ?_) (fun d hd => ?_) ?_ s2 inv.cls
        · rcases inv.done i hi with h | ⟨u, h⟩
          · exact .inl h
          · refine .inr ⟨u, ?_⟩
            simp only [List.mem_append, List.mem_cons, Prod.mk.injEq] at h ⊢
            rcases h with h | ⟨h, _⟩ | h
            · exact .inl h
            · exact absurd h hij
            · exact .inr h
        · have hm : d ∈ s ++ (p, v) :: t := by simp only [List.mem_append, List.mem_cons] at hd ⊢; exact hd.elim .inl (fun h => .inr (.inr h))
          obtain ⟨p1, p2⟩ := inv.pend d hm
          refine ⟨p1, p2, ?_⟩
          rcases List.mem_append.1 hd with h | h
          · have := hlt d h; omega
          · have := hgt d h; omega
        · simp only [List.map_append, List.pairwise_append, List.mem_map]
          exact ⟨hs1, hs3, fun x hx y hy => hs4 x hx y (.inr hy)⟩
      have hfin := ih n (s ++ t) (listed.setIfInBounds (perm.getD p 0) true) (a.put oj.dst v) w C inv' (by simp at hf ⊢; omega) (by rw [s3]; exact hw)
      unfold wpOp
      simp only [hoj]
      rcases s1 with ⟨hwant, hrun⟩ | ⟨hno, rfl⟩
      · rw [if_pos hwant]
        refine .inl ?_
        unfold Oper.wp
        rw [hrun w (cls_of inv.cls)]
        exact hfin
      · rw [if_neg (by rw [hno]; simp)]
        exact hfin
    -- the inner walk: how far the text is behind the operation that comes up
    have inner : ∀ (k n : Nat) (D : List (Nat × Value)) (listed : Array Bool) (a : Act) (w : World) (C : World → Prop), ops.size - n = k → MixInv P ops perm F C n D listed a w → f + 1 = (ops.size - n) + D.length →
        wpMix P ops Q (F.drop n) ((pickL ops.toList perm).drop n) C (putAll (atPlace ops perm) D a) w → ∀ q, q < ops.size → perm.getD q 0 ∈ Region.ready .any ops listed → wpOp P ops Q (perm.getD q 0) (wpAny P .any ops Q f (listed.setIfInBounds (perm.getD q 0) true)) a w := by
      intro k
      induction k with
      | zero =>
        intro n D listed a w C hk inv hf hw q hq hj
        have hn : n = ops.size := by have := inv.le; omega
        exact pendcase n D listed a w C inv hf hw q (by omega) hj
      | succ k ihk =>
        intro n D listed a w C hk inv hf hw q hq hj
        by_cases hjn : q < n
        · exact pendcase n D listed a w C inv hf hw q hjn hj
        have hn : n < ops.size := by omega
        have hnF : n < F.length := by rw [ok.len]; exact hn
        have hnp : n < perm.length := by rw [ok.plen]; exact hn
        obtain ⟨on, hpn, hopn, hon⟩ := at_place ok hn
        have eO : (pickL ops.toList perm).drop n = on :: (pickL ops.toList perm).drop (n + 1) := pickL_drop hpn (by simpa using hopn)
        have eF : F.drop n = F[n] :: F.drop (n + 1) := List.drop_eq_getElem_cons hnF
        have eFn : F.getD n (false, false) = F[n] := by simp [List.getD, hnF]
        rw [eO, eF] at hw
        obtain ⟨oj, hoj, hu, hwj⟩ := ready_lt hj
        have hjs := (Array.getElem?_eq_some_iff.1 hoj).1
        have hapn : ∀ d ∈ D, ∀ od, atPlace ops perm d.1 = some od → (∀ k ∈ waits on, listed.getD k false = true) → Oper.apart ops od on = true ∧ ((F.getD n (false, false)).1 = true ∨ (F.getD n (false, false)).2 = true ∨ (F.getD d.1 (false, false)).2 = true) := fun d hd od hod hwn => by
          obtain ⟨p1, p2⟩ := inv.pend d hd
          have := ok.free d.1 n od on p1 hn hod hon (by
            cases hb : (B.getD (perm.getD n 0) 0).testBit (perm.getD d.1 0) with
            | false => rfl
            | true =>
              have h1 := waited ok inv.closed _ _ (Nat.le_refl _) on hopn hwn (perm.getD d.1 0) (Array.getElem?_eq_some_iff.1 (place_at hod)).1 hb
              rw [p2] at h1; cases h1)
          exact ⟨this.1, this.2.2⟩
        obtain ⟨sf, kp, hfl⟩ : ∃ sf kp, F[n] = (sf, kp) := ⟨_, _, rfl⟩
        rw [hfl] at hw eFn
        rw [eFn] at hapn
        cases sf with
        | true =>
          obtain ⟨v, hy, hw'⟩ := hw
          have hdn : (atPlace ops perm n).bind (·.dst) = on.dst := by rw [hon]; rfl
          have hpa : putAll (atPlace ops perm) (D ++ [(n, v)]) a = (putAll (atPlace ops perm) D a).put on.dst v := by
            rw [putAll_append]
            show (putAll (atPlace ops perm) D a).put ((atPlace ops perm n).bind (·.dst)) v = _
            rw [hdn]
          refine ihk (n + 1) (D ++ [(n, v)]) listed a w C (by omega) ?_ (by simp; omega) (by rw [hpa]; exact hw') q hq hj
          refine ⟨inv.size, hn, inv.closed, fun i hi => ?_, fun i hi hi2 => inv.fresh i (by omega) hi2, fun d hd => ?_, ?_, pend_append inv.yields fun oi hoi => ?_, inv.cls⟩
          · by_cases hin : i = n
            · subst hin; exact .inr ⟨v, by simp⟩
            · rcases inv.done i (by omega) with h | ⟨u, h⟩
              · exact .inl h
              · exact .inr ⟨u, List.mem_append_left _ h⟩
          · rcases List.mem_append.1 hd with h | h
            · obtain ⟨p1, p2⟩ := inv.pend d h; exact ⟨by omega, p2⟩
            · have : d = (n, v) := by simpa using h
              subst this
              exact ⟨Nat.lt_succ_self n, inv.fresh n (Nat.le_refl _) hn⟩
          · simp only [List.map_append, List.map_cons, List.map_nil, List.pairwise_append, List.mem_map]
            refine ⟨inv.sorted, by simp, fun x ⟨d, hd, hx⟩ y hy => ?_⟩
            have := (inv.pend d hd).1
            have : y = n := by simpa using hy
            omega
          · have : oi = on := Option.some.inj (hoi.symm.trans hon)
            subst this; rw [eFn]; exact hy
        | false =>
          have hjn' : q = n := by
            by_cases h : q = n
            · exact h
            · exfalso
              have hnj : n < q := by omega
              obtain ⟨oq, _, hoq1, hoq⟩ := at_place ok hq
              have : oq = oj := Option.some.inj (hoq1.symm.trans hoj)
              subst this
              cases hb : (B.getD (perm.getD q 0) 0).testBit (perm.getD n 0) with
              | true =>
                have h1 := waited ok inv.closed _ _ (Nat.le_refl _) oq hoj hwj (perm.getD n 0) (Array.getElem?_eq_some_iff.1 hopn).1 hb
                rw [inv.fresh n (Nat.le_refl _) hn] at h1; cases h1
              | false =>
                have := (ok.free n q on oq hnj hq hon hoq hb).2.1
                rw [eFn] at this; cases this
          subst hjn'
          have : oj = on := Option.some.inj (hoj.symm.trans hopn)
          subst this
          have hap : ApartAll ops (atPlace ops perm) D oj := fun d hd od hod => (hapn d hd od hod hwj).1
          have hkeep : kp = false → ∀ d ∈ D, (F.getD d.1 (false, false)).2 = true := fun hkp d hd => by
            obtain ⟨p1, _⟩ := inv.pend d hd
            obtain ⟨od, _, _, hod⟩ := at_place ok (p := d.1) (by omega)
            rcases (hapn d hd od hod hwj).2 with h | h | h
            · cases h
            · rw [hkp] at h; cases h
            · exact h
          obtain ⟨he, hwt⟩ := exec_putAll (fun cs b => hsel q oj cs b hon) hap a
          -- what comes behind it
          have next : ∀ (u : Value) (w' : World) (C' : World → Prop), C' w' → (kp = true → C' = C) → wpMix P ops Q (F.drop (q + 1)) ((pickL ops.toList perm).drop (q + 1)) C' ((putAll (atPlace ops perm) D a).put oj.dst u) w' →
              wpAny P .any ops Q f (listed.setIfInBounds (perm.getD q 0) true) (a.put oj.dst u) w' := fun u w' C' hc hk' hw' => by
            refine ih (q + 1) D (listed.setIfInBounds (perm.getD q 0) true) (a.put oj.dst u) w' C' ?_ (by omega) (by rw [putAll_put hap]; exact hw')
            refine inv.set ok hn hoj hwj hn (Nat.lt_succ_self q) (Nat.le_succ q) (fun i hi hij => inv.done i (by omega)) (fun d hd => ?_) inv.sorted ?_ hc
            · obtain ⟨p1, p2⟩ := inv.pend d hd; exact ⟨by omega, p2, by omega⟩
            · cases kp with
              | true => rw [hk' rfl]; exact pend_put hsel hap u inv.yields
              | false => exact pend_pure (C := C) (hkeep rfl) (pend_put hsel hap u inv.yields)
          unfold wpOp
          simp only [hoj]
          simp only [wpMix] at hw
          rw [hwt] at hw
          split
          · rename_i hwant
            rw [if_pos hwant] at hw
            refine hw.imp (fun hw => ?_) (fun hw => ⟨by unfold Oper.asks at hw ⊢; rw [he] at hw; exact hw.1, hw.2⟩)
            unfold Oper.wp at hw ⊢
            rw [he] at hw
            generalize (execOp a.eval oj).run P w = r at hw ⊢
            have hdf : ∀ (u : Value), ((putAll (atPlace ops perm) D a).put oj.dst u).defers = (putAll (atPlace ops perm) D a).defers := fun u => put_defers' _ _ _
            cases r with
            | ok nx w' =>
              cases nx <;> simp only [Oper.upon] at hw ⊢
              case value u => obtain ⟨_, C', h1, h2, h3⟩ := hw; exact next u w' C' h1 h2 h3
              case skip => obtain ⟨_, C', h1, h2, h3⟩ := hw; exact next undef w' C' h1 h2 h3
              case defer d =>
                obtain ⟨h0, _⟩ := hw
                rw [put_defers'] at h0
                have := congrArg List.length h0
                simp at this
              case enter g args =>
                refine Calls.mono hw fun e w'' h => ?_
                cases e with
                | returned u => obtain ⟨_, C', h1, h2, h3⟩ := h; exact next u w'' C' h1 h2 h3
                | panicked c => exact h a (by rw [putAll_defers])
                | outgrown => exact outQ_lets h
              case row row args =>
                refine Rows.mono hw fun u w'' h => ?_
                obtain ⟨_, C', h1, h2, h3⟩ := h; exact next u w'' C' h1 h2 h3
            | halt x w' =>
              cases x <;> simp only [Oper.upon] at hw
              case panic u => exact hw a (by rw [putAll_defers])
          · rename_i hno
            rw [if_neg hno] at hw
            exact next undef w C inv.cls (fun _ => rfl) hw
    intro n D listed a w C inv hf hw
    refine ⟨fun h0 => ?_, fun j hj => ?_⟩
    · exfalso
      by_cases hn : n < ops.size
      · exact some_ready ok inv.size (by obtain ⟨o, _, h, _⟩ := at_place ok hn; exact (Array.getElem?_eq_some_iff.1 h).1) (inv.fresh n (Nat.le_refl _) hn) h0
      · cases D with
        | nil => simp at hf; omega
        | cons d D =>
          obtain ⟨h1, h2⟩ := inv.pend d List.mem_cons_self
          exact some_ready ok inv.size (by obtain ⟨o, _, h, _⟩ := at_place ok (p := d.1) (by have := inv.le; omega); exact (Array.getElem?_eq_some_iff.1 h).1) h2 h0
    · obtain ⟨oj, hoj, _, _⟩ := ready_lt hj
      obtain ⟨q, hq, he, _⟩ := place_of ok (Array.getElem?_eq_some_iff.1 hoj).1
      subst he
      exact inner _ n D listed a w C rfl inv hf hw q hq hj


/-- **A region that draws its order, by one walk of its operations, in an order of one's own.** -/
theorem wp_region_mix {id : Nat} {Q : Exit → Act → World → Prop} {a : Act} {w : World} {l : List Oper} (perm : List Nat) (F : List (Bool × Bool)) (B : List Nat) (C : World → Prop) (hm : P.follows .mixedOrders = true) (hB : mixOk l.toArray perm F B = true)
    (hC : C w.drew) (h : wpMix P l.toArray Q F (pickL l perm) C a w.drew) : (Code.region id l.toArray true).wp P Q a w := by
  have ok := mixOk_spec hB
  refine wp_region_any hm ?_
  have hz : ∀ i, (Array.replicate l.toArray.size false).getD i false = false := fun i => by
    by_cases h : i < l.length <;> simp [h]
  refine mix_any ok l.toArray.size 0 [] _ a _ C ⟨by simp, Nat.zero_le _, fun j oj _ h => ?_, fun i hi => (by omega), fun i _ _ => hz _, fun d hd => (by cases hd), List.Pairwise.nil, trivial, hC⟩ (by simp) h
  rw [hz] at h; cases h

section
variable {Q : Exit → Act → World → Prop} {fs : List (Bool × Bool)} {rest : List Oper} {o : Oper} {a : Act} {w : World}
/-- a pure operation -/
theorem mix_pure (h : Nonempty World → ∀ K : Act → Prop, (∀ a, wpMix P ops Q fs rest C a w → K a) → if Region.wanted o (yielded ops a.tmps) then ∃ v, (∀ w', (execOp a.eval o).run P w' = .ok (.value v) w') ∧ K (a.put o.dst v) else K (a.put o.dst undef)) :
    wpMix P ops Q ((true, true) :: fs) (o :: rest) C a w := by
  have := h ⟨w⟩ _ (fun _ h => h)
  split at this
  · rename_i hw; obtain ⟨v, h1, h2⟩ := this; exact ⟨v, .inl ⟨hw, fun w' _ => h1 w'⟩, h2⟩
  · rename_i hw; exact ⟨undef, .inr ⟨by simpa using hw, rfl⟩, this⟩
/-- a load -/
theorem mix_load (hw : Region.wanted o (yielded ops a.tmps) = true) (h : ∀ K : Act → Prop, (∀ a, wpMix P ops Q fs rest C a w → K a) → ∃ v, (∀ w', C w' → (execOp a.eval o).run P w' = .ok (.value v) w') ∧ K (a.put o.dst v)) :
    wpMix P ops Q ((true, false) :: fs) (o :: rest) C a w := by
  obtain ⟨v, h1, h2⟩ := h _ (fun _ h => h)
  exact ⟨v, .inl ⟨hw, h1⟩, h2⟩
theorem mix_skip {s b : Bool} (hw : Region.wanted o (yielded ops a.tmps) = false) (h : ∀ K : Act → Prop, (∀ a, wpMix P ops Q fs rest C a w → K a) → K (a.put o.dst undef)) :
    wpMix P ops Q ((s, b) :: fs) (o :: rest) C a w := by
  have := h _ (fun _ h => h)
  cases s with
  | true => exact ⟨undef, .inr ⟨hw, rfl⟩, this⟩
  | false => simp only [wpMix]; rw [if_neg (by rw [hw]; simp)]; exact this
/-- a hard operation: what stands behind it is asked in a class of one's own choice (the same one, where loads may be pending) -/
theorem mix_hard {keep : Bool} (hw : Region.wanted o (yielded ops a.tmps) = true) (h : ∀ K : Act → World → Prop, (∀ a' w', a'.defers = a.defers → (∃ C' : World → Prop, C' w' ∧ (keep = true → C' = C) ∧ wpMix P ops Q fs rest C' a' w') → K a' w') → o.wp P a w K (outQ Q)) :
    wpMix P ops Q ((false, keep) :: fs) (o :: rest) C a w := by
  simp only [wpMix]
  rw [if_pos hw]
  exact .inl (h _ (fun _ _ h1 h2 => ⟨h1, h2⟩))
/-- the same, as a walk of one operation -/
theorem mix_one {keep : Bool} (hw : Region.wanted o (yielded ops a.tmps) = true) (h : ∀ R : Exit → Act → World → Prop, (∀ a' w', a'.defers = a.defers → (∃ C' : World → Prop, C' w' ∧ (keep = true → C' = C) ∧ wpMix P ops Q fs rest C' a' w') → R .normal a' w') →
      (∀ e a' w', e ≠ .normal → (∀ a'', a''.defers = a'.defers → Q e a'' w') → R e a' w') → wpList P ops R [o] a w) :
    wpMix P ops Q ((false, keep) :: fs) (o :: rest) C a w := by
  simp only [wpMix]
  rw [if_pos hw]
  have := h (fun e a' w' => match e with
    | .normal => a'.defers = a.defers ∧ ∃ C' : World → Prop, C' w' ∧ (keep = true → C' = C) ∧ wpMix P ops Q fs rest C' a' w'
    | e => ∀ a'', a''.defers = a'.defers → Q e a'' w') (fun a' w' h1 h2 => ⟨h1, h2⟩) (fun e a' w' he hq => by cases e <;> first | exact absurd rfl he | exact hq)
  simp only [wpList] at this
  rw [if_pos hw] at this
  refine this.imp (fun h => ?_) (fun h => ⟨h.1, ?_⟩)
  · unfold Oper.wp at h ⊢
    generalize (execOp a.eval o).run P w = r at h ⊢
    cases r with
    | ok nx w' =>
      cases nx <;> simp only [Oper.upon] at h ⊢ <;> exact h
    | halt x w' => cases x <;> simp only [Oper.upon] at h ⊢ <;> exact h
  · obtain ⟨_, a, w, h⟩ := h; exact ⟨a, w, h a rfl⟩
theorem mix_done (h : Q .normal a w) : wpMix P ops Q [] [] C a w := h
end

end

theorem below_mix {B : Nat} {w wr : World} (hb : RowKit.Below B w wr) (hB : B ≤ wr.heap.size) (o : Obj) : RowKit.Below B w (wr.alloc o).drew := (hb.alloc hB o).trans ⟨rfl, rfl, rfl, Nat.le_refl _, fun _ _ => rfl⟩
end Go.Proofs.Ytogejjbclimjjaa
