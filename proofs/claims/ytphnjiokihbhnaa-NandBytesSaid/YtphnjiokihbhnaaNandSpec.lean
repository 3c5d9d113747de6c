/- Chips, plainly: what an operation on them answers and leaves; and where they lie in memory, for the program and for the reference alike. -/
--only r2
import Derived.Test.YtphnjiokihbhnaaOnly
import Derived.Test.YtphnjiokihbhnaaR1
import Derived.Test.YtphnjiokihbhnaaMix
namespace Go.Proofs.Ytphnjiokihbhnaa
set_option linter.unusedVariables false
set_option linter.unusedSimpArgs false
open Go.RowKit

/-- what comes at an operation -/
structure Ev where
  op : Int
  kind : Int
  chip : Int
  left : List UInt8
def Ev.zero : Ev := ⟨0, 0, 0, []⟩
/-- chips: a page is its bytes, with those beside it; none: it is erased -/
structure Nd where
  mem : Nat
  blk : Nat
  pgs : Nat
  siz : Nat
  page : Nat → Nat → Nat → List UInt8
  next : Nat → Nat → Nat
  erases : Nat → Nat → Nat
  bad : Nat → Nat → Bool
  gone : Nat → Bool
  evs : List Ev
  ops : Nat
  off : Bool

def upd1 {α : Type} (f : Nat → α) (c : Nat) (v : α) : Nat → α := fun x => if x = c then v else f x
def upd2 {α : Type} (f : Nat → Nat → α) (c b : Nat) (v : α) : Nat → Nat → α := fun x y => if x = c ∧ y = b then v else f x y
def upd3 {α : Type} (f : Nat → Nat → Nat → α) (c b p : Nat) (v : α) : Nat → Nat → Nat → α := fun x y z => if x = c ∧ y = b ∧ z = p then v else f x y z
theorem upd1_same {α : Type} (f : Nat → α) (c : Nat) (v : α) : upd1 f c v c = v := if_pos rfl
theorem upd2_same {α : Type} (f : Nat → Nat → α) (c b : Nat) (v : α) : upd2 f c b v c b = v := if_pos ⟨rfl, rfl⟩
theorem upd3_same {α : Type} (f : Nat → Nat → Nat → α) (c b p : Nat) (v : α) : upd3 f c b p v c b p = v := if_pos ⟨rfl, rfl, rfl⟩

/-- the first event of an operation -/
def Ev.now (n : Nat) (x : Ev) : Bool := x.op == (n : Int) && (decide (1 ≤ x.kind) && decide (x.kind ≤ 3))
def comesOf (evs : List Ev) (n : Nat) : Ev := (evs.find? (Ev.now n)).getD .zero
def Nd.die (M : Nd) (x : Ev) : Nd := if x.kind = 3 ∧ 0 ≤ x.chip ∧ x.chip ≤ M.mem then { M with gone := upd1 M.gone x.chip.toNat true } else M
def Nd.inside (M : Nd) (c b : Int) : Prop := 0 ≤ c ∧ c ≤ M.mem ∧ 0 ≤ b ∧ b < M.blk
instance (M : Nd) (c b : Int) : Decidable (M.inside c b) := by unfold Nd.inside; infer_instance
/-- an operation that begins: the chips then, what comes, the error -/
def Nd.begin (M : Nd) (c b : Int) : Nd × Ev × Nat :=
  if M.off then (M, .zero, 72)
  else if ¬ M.inside c b then (M, .zero, 34)
  else
    let x := comesOf M.evs (M.ops + 1)
    let M2 := Nd.die { M with ops := M.ops + 1 } x
    if M2.gone c.toNat then (if x.kind = 2 then ({ M2 with off := true }, .zero, 72) else (M2, .zero, 71))
    else (M2, x, 0)
/-- a page of which an event's bytes are left -/
def leftOf (siz : Nat) (l : List UInt8) : List UInt8 := (List.range (siz + 64)).map fun i => if l.length = 0 then 0 else l.getD (i % l.length) 0
theorem leftOf_length (siz : Nat) (l : List UInt8) : (leftOf siz l).length = siz + 64 := by simp [leftOf]

def Nd.pageIn (M : Nd) (p : Int) : Prop := 0 ≤ p ∧ p < M.pgs
instance (M : Nd) (p : Int) : Decidable (M.pageIn p) := by unfold Nd.pageIn; infer_instance
def full (n : Nat) : List UInt8 := List.replicate n 255
/-- Read: the chips then, the page, the error -/
def Nd.read (M : Nd) (c b p : Int) : Nd × List UInt8 × Nat :=
  match M.begin c b with
  | (M1, x, e) =>
    if e ≠ 0 then (M1, [], e)
    else if x.kind = 2 then ({ M1 with off := true }, [], 72)
    else if ¬ M1.pageIn p then (M1, [], 34)
    else (M1, if (M1.page c.toNat b.toNat p.toNat).length = 0 then full (M1.siz + 64) else M1.page c.toNat b.toNat p.toNat, 0)
/-- a page is laid, the next one is the one behind it -/
def Nd.lay (M : Nd) (c b p : Nat) (l : List UInt8) : Nd := { M with page := upd3 M.page c b p l, next := upd2 M.next c b (M.next c b + 1) }
def Nd.spoil (M : Nd) (c b : Nat) : Nd := { M with bad := upd2 M.bad c b true }
/-- Program: the chips then, the error -/
def Nd.program (M : Nd) (c b p : Int) (data oob : List UInt8) : Nd × Nat :=
  match M.begin c b with
  | (M1, x, e) =>
    if e ≠ 0 then (M1, e)
    else if ¬ (M1.pageIn p ∧ data.length = M1.siz ∧ oob.length = 64) then (if x.kind = 2 then ({ M1 with off := true }, 72) else (M1, 34))
    else if x.kind = 2 then
      (if p = M1.next c.toNat b.toNat ∧ M1.bad c.toNat b.toNat = false then ({ M1 with off := true }.lay c.toNat b.toNat p.toNat (leftOf M1.siz x.left), 72) else ({ M1 with off := true }, 72))
    else if M1.bad c.toNat b.toNat then (M1, 70)
    else if p ≠ M1.next c.toNat b.toNat then (M1, 73)
    else if x.kind = 1 then ((M1.lay c.toNat b.toNat p.toNat (leftOf M1.siz x.left)).spoil c.toNat b.toNat, 70)
    else (M1.lay c.toNat b.toNat p.toNat (data ++ oob), 0)
/-- all pages of a block are the same bytes -/
def Nd.fill (M : Nd) (c b n : Nat) (l : List UInt8) : Nd := { M with page := fun x y z => if x = c ∧ y = b ∧ z < M.pgs then l else M.page x y z, next := upd2 M.next c b n }
def Nd.count (M : Nd) (c b : Nat) : Nd := { M with erases := upd2 M.erases c b (M.erases c b + 1) }
/-- Erase: the chips then, the error -/
def Nd.erase (M : Nd) (c b : Int) : Nd × Nat :=
  match M.begin c b with
  | (M1, x, e) =>
    if e ≠ 0 then (M1, e)
    else if M1.bad c.toNat b.toNat = true ∧ x.kind ≠ 2 then (M1, 70)
    else if x.kind = 2 ∨ x.kind = 1 then
      let M2 := if M1.bad c.toNat b.toNat then M1 else M1.fill c.toNat b.toNat M1.pgs (leftOf M1.siz x.left)
      (if x.kind = 1 then (M2.spoil c.toNat b.toNat, 70) else ({ M2 with off := true }, 72))
    else ((M1.fill c.toNat b.toNat 0 []).count c.toNat b.toNat, 0)
def Nd.boot (M : Nd) : Nd := { M with off := false }
def Nd.kill (M : Nd) (c : Int) : Nd := if 0 ≤ c ∧ c ≤ M.mem then { M with gone := upd1 M.gone c.toNat true } else M
/-- chips that hold nothing -/
def Nd.fresh (mem blk pgs siz : Nat) (bad : Nat → Nat → Bool) (evs : List Ev) : Nd :=
  ⟨mem, blk, pgs, siz, fun _ _ _ => [], fun _ _ => 0, fun _ _ => 0, bad, fun _ => false, evs, 0, false⟩

/-- what holds of all chips here -/
structure Nd.Ok (M : Nd) : Prop where
  mem : 1 ≤ M.mem ∧ M.mem ≤ 16
  blk : 1 ≤ M.blk ∧ M.blk ≤ 64
  pgs : 1 ≤ M.pgs ∧ M.pgs ≤ 32
  siz : 1 ≤ M.siz ∧ M.siz ≤ 1024
  page : ∀ c b p, M.page c b p = [] ∨ (M.page c b p).length = M.siz + 64
  next : ∀ c b, M.next c b ≤ 255
  erases : ∀ c b, M.erases c b ≤ 4294967295 + M.ops
  left : ∀ x ∈ M.evs, x.left.length ≤ 1000 ∧ I64 x.op ∧ I64 x.kind ∧ I64 x.chip
  evs : M.evs.length ≤ 1000
  ops : M.ops ≤ 1000000

/-- where the parts of chips lie -/
inductive Tag where
  | none | top | dead | chips | evs | chip (c : Nat) | pages (c b : Nat)
def Tag.mut : Tag → Bool
  | .top | .dead | .chip _ | .pages _ _ => true
  | _ => false
structure NdLay where
  p : Nat
  cs : Nat
  cc : Nat
  dd : Nat
  dc : Nat
  cb : Nat → Nat
  bc : Nat → Nat
  pb : Nat → Nat → Nat
  pc : Nat → Nat → Nat
  pv : Nat → Nat → Nat → Value
  ea : Option Addr
  ec : Nat
  tag : Nat → Tag
def NdLay.S (L : NdLay) (b : Nat) : Prop := (L.tag b).mut = true

/-- a block that may be written, whose first cells are these; it holds no byte -/
def Row (w : World) (b n : Nat) (f : Nat → Value) : Prop := ∃ cs t, w.heap[b]? = some (.cells cs t (0, 0)) ∧ (∀ o, o < n → cs[o]? = some (f o)) ∧ ∀ (o : Nat) (c : UInt8), cs[o]? ≠ some (u8v c)
theorem Row.cell {w : World} {b n o : Nat} {f : Nat → Value} (h : Row w b n f) (ho : o < n) : w.cell? ⟨b, o, none⟩ = some (f o) := by
  obtain ⟨cs, t, hh, hf, _⟩ := h; exact cells_at hh o _ (hf o ho)
theorem Row.froz {w : World} {b n : Nat} {f : Nat → Value} (h : Row w b n f) (o : Nat) : w.frozen? ⟨b, o, none⟩ = false := by
  obtain ⟨cs, t, hh, _, _⟩ := h; exact froz_at hh o
theorem Row.noByte {w : World} {b n : Nat} {f : Nat → Value} (h : Row w b n f) : NoByte w b := by
  obtain ⟨cs, t, hh, _, hn⟩ := h; exact noByte_of hh hn
theorem Row.lt {w : World} {b n : Nat} {f : Nat → Value} (h : Row w b n f) : b < w.heap.size := by
  obtain ⟨cs, t, hh, _, _⟩ := h; exact heap_lt hh
theorem Row.only {S : Nat → Prop} {w w' : World} {b n : Nat} {f : Nat → Value} (h : Row w b n f) (hO : Only S w w') (hn : ¬ S b) : Row w' b n f := by
  obtain ⟨cs, t, hh, h1, h2⟩ := h; exact ⟨cs, t, hO.at hh hn, h1, h2⟩
theorem Row.below {w w' : World} {b n : Nat} {f : Nat → Value} (h : Row w b n f) (hb : Below w.heap.size w w') : Row w' b n f := by
  obtain ⟨cs, t, hh, h1, h2⟩ := h; exact ⟨cs, t, heap_keep hb hh, h1, h2⟩
theorem Row.congr {w : World} {b n : Nat} {f g : Nat → Value} (h : Row w b n f) (hg : ∀ o, o < n → f o = g o) : Row w b n g := by
  obtain ⟨cs, t, hh, h1, h2⟩ := h; exact ⟨cs, t, hh, fun o ho => by rw [h1 o ho, hg o ho], h2⟩
theorem Row.set {w : World} {b n o : Nat} {f : Nat → Value} (h : Row w b n f) (u : Value) (ho : o < n) (hu : NB u) : Row (w.setCell ⟨b, o, none⟩ u) b n (fun i => if i = o then u else f i) := by
  obtain ⟨cs, t, hh, h1, h2⟩ := h
  have hlt : o < cs.size := by
    have := h1 o ho
    exact (Array.getElem?_eq_some_iff.mp this).1
  refine ⟨_, t, set_at hh u, fun i hi => ?_, fun i c hc => ?_⟩
  · rw [Array.getElem?_setIfInBounds]
    by_cases e : o = i
    · subst e; simp [hlt]
    · rw [if_neg e]; simp only [if_neg (fun h : i = o => e h.symm)]; exact h1 i hi
  · rw [Array.getElem?_setIfInBounds] at hc
    by_cases e : o = i
    · subst e; simp only [if_true, hlt] at hc; exact hu c (by simpa using hc)
    · rw [if_neg e] at hc; exact h2 i c hc
theorem Row.other {w : World} {b n : Nat} {f : Nat → Value} (h : Row w b n f) (a : Addr) (u : Value) (hb : b ≠ a.block) : Row (w.setCell a u) b n f :=
  h.only (Only.of_set w a u) hb
theorem Row.mk' {w : World} {b n t : Nat} {cs : Array Value} {f : Nat → Value} (h : w.heap[b]? = some (.cells cs t (0, 0))) (hf : ∀ o, o < n → cs[o]? = some (f o)) (hn : ∀ x ∈ cs, NB x) : Row w b n f :=
  ⟨cs, t, h, hf, fun o c hc => by
    obtain ⟨hlt, he⟩ := Array.getElem?_eq_some_iff.mp hc
    exact hn _ (Array.getElem_mem hlt) c he⟩
/-- the first cells of a block are these -/
def Cells (w : World) (b n : Nat) (f : Nat → Value) : Prop := ∀ o, o < n → w.cell? ⟨b, o, none⟩ = some (f o)
theorem Cells.cell {w : World} {b n o : Nat} {f : Nat → Value} (h : Cells w b n f) (ho : o < n) : w.cell? ⟨b, o, none⟩ = some (f o) := h o ho
theorem Cells.only {S : Nat → Prop} {w w' : World} {b n : Nat} {f : Nat → Value} (h : Cells w b n f) (hO : Only S w w') (hn : ¬ S b) : Cells w' b n f := fun o ho => hO.cell (h o ho) hn
theorem nb_ptr (a : Option Addr) : NB (.pointer a) := fun _ => by simp

/-- a slice of events -/
def REv (w : World) (a : Option Addr) (cap : Nat) (xs : List Ev) (S : Nat → Prop) : Prop :=
  xs.length ≤ cap ∧ cap ≤ maxLen ∧ (a = none → cap = 0) ∧ (xs = [] ∨ ∃ b o, a = some ⟨b, o, none⟩ ∧ S b ∧ ∀ (i : Nat) (h : i < xs.length), ∃ v,
    w.cell? ⟨b, o + i * 4, none⟩ = some (.int .i64 xs[i].op) ∧ w.cell? ⟨b, o + i * 4 + 1, none⟩ = some (.int .i64 xs[i].kind) ∧ w.cell? ⟨b, o + i * 4 + 2, none⟩ = some (.int .i64 xs[i].chip) ∧ w.cell? ⟨b, o + i * 4 + 3, none⟩ = some v ∧ RB w v xs[i].left)
theorem REv.only {S T : Nat → Prop} {w w' : World} {a : Option Addr} {cap : Nat} {xs : List Ev} (h : REv w a cap xs S) (hO : Only T w w') (hT : ∀ b, b < w.heap.size → T b → ¬ S b) (hn : ∀ b, b < w.heap.size → T b → NoByte w b) : REv w' a cap xs S := by
  obtain ⟨h2, h3, h0, h4⟩ := h
  refine ⟨h2, h3, h0, h4.imp_right fun ⟨b, o, ha, hs, hc⟩ => ⟨b, o, ha, hs, fun i hi => ?_⟩⟩
  obtain ⟨v, c0, c1, c2, c3, hv⟩ := hc i hi
  have hnT : ¬ T b := fun ht => hT b (cell_lt c0) ht hs
  exact ⟨v, hO.cell c0 hnT, hO.cell c1 hnT, hO.cell c2 hnT, hO.cell c3 hnT, hv.only hO hn⟩
theorem REv.mono {S T : Nat → Prop} {w : World} {a : Option Addr} {cap : Nat} {xs : List Ev} (h : REv w a cap xs S) (hS : ∀ b, b < w.heap.size → S b → T b) : REv w a cap xs T := by
  obtain ⟨h2, h3, h0, h4⟩ := h
  refine ⟨h2, h3, h0, h4.elim .inl fun ⟨b, o, ha, hs, hc⟩ => ?_⟩
  by_cases he : xs = []
  · exact .inl he
  · refine .inr ⟨b, o, ha, ?_, hc⟩
    obtain ⟨v, c0, _⟩ := hc 0 (by cases xs; exact absurd rfl he; simp)
    exact hS b (cell_lt c0) hs

def kk (pr : Bool) : Nat := if pr then 2 else 1
def nilV : Value := .slice none 0 0
/-- a page's cells -/
def Pg (pr : Bool) (w : World) (f : Nat → Value) (siz p : Nat) (l : List UInt8) : Prop :=
  match pr with
  | true => (l = [] ∧ f (p * 2) = nilV ∧ f (p * 2 + 1) = nilV) ∨ (l ≠ [] ∧ RB w (f (p * 2)) (l.take siz) ∧ RB w (f (p * 2 + 1)) (l.drop siz))
  | false => RB w (f p) l
theorem Pg.only {pr : Bool} {T : Nat → Prop} {w w' : World} {f : Nat → Value} {siz p : Nat} {l : List UInt8} (h : Pg pr w f siz p l) (hO : Only T w w') (hn : ∀ b, b < w.heap.size → T b → NoByte w b) : Pg pr w' f siz p l := by
  cases pr with
  | true => exact Or.imp id (fun ⟨h0, h1, h2⟩ => ⟨h0, h1.only hO hn, h2.only hO hn⟩) h
  | false => exact RB.only h hO hn
theorem Pg.congr {pr : Bool} {w : World} {f g : Nat → Value} {siz p : Nat} {l : List UInt8} (h : Pg pr w f siz p l) (hg : ∀ o, p * kk pr ≤ o → o < p * kk pr + kk pr → g o = f o) : Pg pr w g siz p l := by
  cases pr with
  | true =>
    have e0 := hg (p * 2) (by simp [kk]) (by simp [kk])
    have e1 := hg (p * 2 + 1) (by simp [kk]) (by simp [kk])
    exact Or.imp (fun ⟨h0, h1, h2⟩ => ⟨h0, e0.trans h1, e1.trans h2⟩) (fun ⟨h0, h1, h2⟩ => ⟨h0, by rw [e0]; exact h1, by rw [e1]; exact h2⟩) h
  | false =>
    have e0 := hg p (by simp [kk]) (by simp [kk])
    show RB w (g p) l
    rw [e0]; exact h

def topCells (L : NdLay) (M : Nd) : Array Value :=
  #[.int .i64 M.mem, .int .i64 M.blk, .int .i64 M.pgs, .int .i64 M.siz, .slice (some ⟨L.cs, 0, none⟩) (M.mem + 1) L.cc, .slice (some ⟨L.dd, 0, none⟩) (M.mem + 1) L.dc, .slice L.ea M.evs.length L.ec, .int .i64 M.ops, .bool M.off]
def blkCells (L : NdLay) (M : Nd) (c o : Nat) : Value :=
  if o % 4 = 0 then .slice (some ⟨L.pb c (o / 4), 0, none⟩) M.pgs (L.pc c (o / 4)) else if o % 4 = 1 then .int .i64 (M.next c (o / 4)) else if o % 4 = 2 then .int .i64 (M.erases c (o / 4)) else .bool (M.bad c (o / 4))
theorem blkCells0 (L : NdLay) (M : Nd) (c b : Nat) : blkCells L M c (b * 4) = .slice (some ⟨L.pb c b, 0, none⟩) M.pgs (L.pc c b) := by
  have h1 : b * 4 % 4 = 0 := by omega
  have h2 : b * 4 / 4 = b := by omega
  simp [blkCells, h1, h2]
theorem blkCells1 (L : NdLay) (M : Nd) (c b : Nat) : blkCells L M c (b * 4 + 1) = .int .i64 (M.next c b) := by
  have h1 : (b * 4 + 1) % 4 = 1 := by omega
  have h2 : (b * 4 + 1) / 4 = b := by omega
  simp [blkCells, h1, h2]
theorem blkCells2 (L : NdLay) (M : Nd) (c b : Nat) : blkCells L M c (b * 4 + 2) = .int .i64 (M.erases c b) := by
  have h1 : (b * 4 + 2) % 4 = 2 := by omega
  have h2 : (b * 4 + 2) / 4 = b := by omega
  simp [blkCells, h1, h2]
theorem blkCells3 (L : NdLay) (M : Nd) (c b : Nat) : blkCells L M c (b * 4 + 3) = .bool (M.bad c b) := by
  have h1 : (b * 4 + 3) % 4 = 3 := by omega
  have h2 : (b * 4 + 3) / 4 = b := by omega
  simp [blkCells, h1, h2]

/-- chips in memory: the program's (true), the reference's (false) -/
structure NdAt (pr : Bool) (w : World) (L : NdLay) (M : Nd) : Prop where
  ok : M.Ok
  top : w.heap[L.p]? = some (.cells (topCells L M) (if pr then 85 else 61) (0, 0))
  chips : Cells w L.cs (M.mem + 1) (fun c => .slice (some ⟨L.cb c, 0, none⟩) M.blk (L.bc c))
  dead : Row w L.dd (M.mem + 1) (fun c => .bool (M.gone c))
  blk : ∀ c, c ≤ M.mem → Row w (L.cb c) (M.blk * 4) (blkCells L M c)
  pgs : ∀ c b, c ≤ M.mem → b < M.blk → Row w (L.pb c b) (M.pgs * kk pr) (L.pv c b)
  pg : ∀ c b p, c ≤ M.mem → b < M.blk → p < M.pgs → Pg pr w (L.pv c b) M.siz p (M.page c b p)
  evs : REv w L.ea L.ec M.evs (fun b => L.tag b = .evs)
  caps : (M.mem + 1 ≤ L.cc ∧ L.cc ≤ maxLen) ∧ (M.mem + 1 ≤ L.dc ∧ L.dc ≤ maxLen) ∧ (∀ c, c ≤ M.mem → M.blk ≤ L.bc c ∧ L.bc c ≤ maxLen) ∧ ∀ c b, c ≤ M.mem → b < M.blk → M.pgs ≤ L.pc c b ∧ L.pc c b ≤ maxLen
  tp : L.tag L.p = .top
  td : L.tag L.dd = .dead
  tc : L.tag L.cs = .chips
  tb : ∀ c, c ≤ M.mem → L.tag (L.cb c) = .chip c
  tg : ∀ c b, c ≤ M.mem → b < M.blk → L.tag (L.pb c b) = .pages c b
  only : ∀ x, L.S x → x = L.p ∨ x = L.dd ∨ (∃ c, c ≤ M.mem ∧ x = L.cb c) ∨ ∃ c b, c ≤ M.mem ∧ b < M.blk ∧ x = L.pb c b
  lt : ∀ x, L.tag x ≠ .none → x < w.heap.size

section
variable {pr : Bool} {w w' : World} {L : NdLay} {M : Nd}
theorem topCells_nb {L : NdLay} {M : Nd} : ∀ (o : Nat) (c : UInt8), (topCells L M)[o]? ≠ some (u8v c) := fun o c h => by
  have : u8v c ∈ topCells L M := Array.mem_of_getElem? h
  simp [topCells, u8v] at this
theorem NdAt.noByte (h : NdAt pr w L M) {x : Nat} (hx : L.S x) : NoByte w x := by
  rcases h.only x hx with rfl | rfl | ⟨c, hc, rfl⟩ | ⟨c, b, hc, hb, rfl⟩
  · exact noByte_of h.top topCells_nb
  · exact h.dead.noByte
  · exact (h.blk c hc).noByte
  · exact (h.pgs c b hc hb).noByte
theorem NdAt.Sp (h : NdAt pr w L M) : L.S L.p := by unfold NdLay.S; rw [h.tp]; rfl
theorem NdAt.Sd (h : NdAt pr w L M) : L.S L.dd := by unfold NdLay.S; rw [h.td]; rfl
theorem NdAt.Sb (h : NdAt pr w L M) {c : Nat} (hc : c ≤ M.mem) : L.S (L.cb c) := by unfold NdLay.S; rw [h.tb c hc]; rfl
theorem NdAt.Sg (h : NdAt pr w L M) {c b : Nat} (hc : c ≤ M.mem) (hb : b < M.blk) : L.S (L.pb c b) := by unfold NdLay.S; rw [h.tg c b hc hb]; rfl
theorem NdLay.S_ne {L : NdLay} {x : Nat} (h : L.S x) : L.tag x ≠ .none := fun e => by unfold NdLay.S at h; rw [e] at h; cases h
/-- where other blocks turn -/
theorem NdAt.frame {T : Nat → Prop} (h : NdAt pr w L M) (hO : Only T w w') (hT : ∀ b, b < w.heap.size → T b → L.tag b = .none) (hn : ∀ b, b < w.heap.size → T b → NoByte w b) : NdAt pr w' L M := by
  have hne : ∀ x t, L.tag x = t → t ≠ .none → ¬ T x := fun x t e ht hx => by
    have := hT x (h.lt x (by rw [e]; exact ht)) hx
    rw [e] at this; exact ht this
  refine ⟨h.ok, hO.at h.top (hne _ _ h.tp (by simp)), h.chips.only hO (hne _ _ h.tc (by simp)), h.dead.only hO (hne _ _ h.td (by simp)), fun c hc => (h.blk c hc).only hO (hne _ _ (h.tb c hc) (by simp)),
    fun c b hc hb => (h.pgs c b hc hb).only hO (hne _ _ (h.tg c b hc hb) (by simp)), fun c b p hc hb hp => (h.pg c b p hc hb hp).only hO hn,
    h.evs.only hO (fun b hb ht e => hne b _ e (by simp) ht) hn, h.caps, h.tp, h.td, h.tc, h.tb, h.tg, h.only, fun x hx => Nat.lt_of_lt_of_le (h.lt x hx) hO.size⟩
theorem NdAt.below (h : NdAt pr w L M) (hb : Below w.heap.size w w') : NdAt pr w' L M := h.frame (Only.new hb fun _ => False) (fun _ _ => False.elim) (fun _ _ => False.elim)
end
end Go.Proofs.Ytphnjiokihbhnaa
