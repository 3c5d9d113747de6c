/- nand: chips are made. -/
--only r2
import Derived.Test.YtphnjiokihbhnaaNandMake
namespace Go.Proofs.Ytphnjiokihbhnaa
set_option linter.unusedVariables false
set_option linter.unusedSimpArgs false
open Go.RowKit

/-- a slice of pairs of numbers -/
def RPair (w : World) (v : Value) (xs : List (Int × Int)) : Prop :=
  ∃ (a : Option Addr) (cap : Nat), v = .slice a xs.length cap ∧ xs.length ≤ cap ∧ cap ≤ maxLen ∧ (xs = [] ∨ ∃ b o, a = some ⟨b, o, none⟩ ∧ ∀ (i : Nat) (h : i < xs.length),
    w.cell? ⟨b, o + i * 2, none⟩ = some (.int .i64 xs[i].1) ∧ w.cell? ⟨b, o + i * 2 + 1, none⟩ = some (.int .i64 xs[i].2))
theorem RPair.nil (w : World) : RPair w (.slice none 0 0) [] := ⟨none, 0, rfl, Nat.le_refl _, by simp [maxLen], .inl rfl⟩
theorem RPair.below {w w' : World} {v : Value} {xs : List (Int × Int)} (h : RPair w v xs) (hb : Below w.heap.size w w') : RPair w' v xs := by
  obtain ⟨a, cap, h1, h2, h3, h4⟩ := h
  refine ⟨a, cap, h1, h2, h3, h4.imp_right fun ⟨b, o, ha, hc⟩ => ⟨b, o, ha, fun i hi => ?_⟩⟩
  obtain ⟨c0, c1⟩ := hc i hi
  exact ⟨below_cell hb (cell_lt c0) c0, below_cell hb (cell_lt c1) c1⟩
def badOf (bads : List (Int × Int)) (c b : Nat) : Bool := bads.any fun x => x.1 == (c : Int) && x.2 == (b : Int)
def badsOk (c b : Int) (bads : List (Int × Int)) : Prop := ∀ x ∈ bads, 0 ≤ x.1 ∧ x.1 ≤ c ∧ 0 ≤ x.2 ∧ x.2 < b
def evsOk (xs : List Ev) : Prop := ∀ x ∈ xs, x.left.length ≤ 1000 ∧ I64 x.op ∧ I64 x.kind ∧ I64 x.chip

/-- chips that were made -/
def Made (w : World) (M : Nd) (e : Ending) (w' : World) : Prop :=
  ∃ L, e = .returned (.tuple #[ptrV L.p, .int .i64 0]) ∧ NdAt true w' L M ∧ (∀ x, L.tag x ≠ .none → w.heap.size ≤ x) ∧ Below w.heap.size w w'
def NewEnds (c b p s : Int) (bads : List (Int × Int)) (xs : List Ev) (w : World) (e : Ending) (w' : World) : Prop :=
  (geoOk c b p s ∧ xs.length ≤ 200 ∧ badsOk c b bads → Made w (Nd.fresh c.toNat b.toNat p.toNat s.toNat (badOf bads) xs) e w') ∧
  (¬ (geoOk c b p s ∧ xs.length ≤ 200 ∧ badsOk c b bads) → e = .returned (.tuple #[.pointer none, .int .i64 34]) ∧ Below w.heap.size w w')

set_option maxRecDepth 100000 in
set_option maxHeartbeats 2000000 in
theorem new_no (c b p s : Int) (vb : Value) (bads : List (Int × Int)) (ea : Option Addr) (ec : Nat) (xs : List Ev) (w : World) (hb : RPair w vb bads) (he : REv w ea ec xs (fun _ => True)) (hno : ¬ (geoOk c b p s ∧ xs.length ≤ 200)) (hxl : xs.length ≤ 1000) :
    Calls Try.prog 10 #[geoV c b p s, vb, .slice ea xs.length ec] w (NewEnds c b p s bads xs w) := by
  have hch := gcheck_calls c b p s (w.alloc (.cells #[.int .i64 c, .int .i64 b, .int .i64 p, .int .i64 s] 29))
  have hbel := (Below.refl w.heap.size w).alloc (Nat.le_refl _) (.cells #[.int .i64 c, .int .i64 b, .int .i64 p, .int .i64 s] 29)
  have hend : ∀ w', Below w.heap.size w w' → NewEnds c b p s bads xs w (.returned (.tuple #[.pointer none, .int .i64 34])) w' := fun w' h => ⟨fun h1 => absurd ⟨h1.1, h1.2.1⟩ hno, fun _ => ⟨rfl, h⟩⟩
  generalize NewEnds c b p s bads xs w = Post at hend ⊢
  have HE := Lib.hid hend
  have HCH := Lib.hid hch
  clear hend hch hb he
  go_enter Try.func10, Try.ntmps10
  go_wp2_with fail
  refine HCH.out.mono ?_
  rintro e w1 ⟨rfl, hb1⟩
  have hb1' := hbel.trans (hb1.mono hbel.size)
  clear HCH
  by_cases hg : geoOk c b p s
  · rw [if_pos hg]
    have hx : 200 < xs.length := by
      by_cases h : xs.length ≤ 200
      · exact absurd ⟨hg, h⟩ hno
      · omega
    clear hno hg
    go_wp2_with fail
    exact HE.out _ hb1'
  · rw [if_neg hg]
    clear hno hg
    go_wp2_with fail
    exact HE.out _ hb1'

/-- blocks that are held, while only new ones are made; what is born is new -/
def BornA (K : List (Nat × Obj)) (B0 : Nat) (R : World → Prop) : Asn := fun G w => Held K w ∧ G = (fun b => b < B0) ∧ B0 ≤ w.heap.size ∧ R w
theorem BornA.good {K : List (Nat × Obj)} {B0 : Nat} {R : World → Prop} (h : ∀ w o, B0 ≤ w.heap.size → R w → R (w.alloc o)) : Good (Held K) (BornA K B0 R) := by
  refine ⟨fun G w o hA => ⟨hA.1.below ((Below.refl w.heap.size w).alloc (Nat.le_refl _) o), hA.2.1, by simp; have := hA.2.2.1; omega, h w o hA.2.2.1 hA.2.2.2⟩, fun G w hA => hA.1, fun G w b hA hb => ?_⟩
  have h1 := hA.2.1
  have h2 := hA.2.2.1
  subst h1
  have : b < B0 := hb
  omega
theorem REv.alloc {w : World} {a : Option Addr} {cap : Nat} {xs : List Ev} {S : Nat → Prop} (h : REv w a cap xs S) (o : Obj) : REv (w.alloc o) a cap xs S :=
  h.only (Only.of_alloc (fun _ => False) w o) (fun _ _ => False.elim) (fun _ _ => False.elim)
theorem REv.below {w w' : World} {a : Option Addr} {cap : Nat} {xs : List Ev} {S : Nat → Prop} (h : REv w a cap xs S) (hb : Below w.heap.size w w') : REv w' a cap xs S :=
  h.only (Only.new hb fun _ => False) (fun _ _ => False.elim) (fun _ _ => False.elim)

/-- a chip's row of blocks, of which the first j have their pages -/
def rowCell (q p j o : Nat) : Value :=
  if o % 4 = 0 then (if o / 4 < j then .slice (some ⟨q + 1 + o / 4, 0, none⟩) p p else nilV) else if o % 4 = 1 then .int .i64 0 else if o % 4 = 2 then .int .i64 0 else .bool false
abbrev cvRow (cb : Nat → Nat) (b k : Nat) : List Value := (List.range k).map fun i => .slice (some ⟨cb i, 0, none⟩) b b
/-- chips that are being made: k of them are there -/
structure NewInv (c b p s pb db g0 B0 : Nat) (ea : Option Addr) (ec : Nat) (xs : List Ev) (w wz : World) (E : Nat → Prop) (k : Nat) (cb : Nat → Nat) (tag : Nat → Tag) (cv : Value) (wr : World) : Prop where
  geo : wr.heap[g0]? = some (.cells #[.int .i64 c, .int .i64 b, .int .i64 p, .int .i64 s] 29 (0, 0))
  bel : Below w.heap.size w wr
  top : wr.heap[pb]? = some (.cells #[.int .i64 c, .int .i64 b, .int .i64 p, .int .i64 s, cv, .slice (some ⟨db, 0, none⟩) (c + 1) (c + 1), .slice ea xs.length ec, .int .i64 0, .bool false] 85 (0, 0))
  row : wr.ownsRow B0 86 1 cv k (cvRow cb b k)
  rowt : ∀ g, cv.ownBlock = some g → tag g = .chips
  rown : ∀ g, cv.ownBlock = some g → wz.heap.size ≤ g
  dead : Row wr db (c + 1) fun _ => .bool false
  blk : ∀ i, i < k → Row wr (cb i) (b * 4) (rowCell (cb i) p b)
  pgs : ∀ i j, i < k → j < b → Row wr (cb i + 1 + j) (p * 2) fun _ => nilV
  old : Only (fun x => x = pb) wz wr
  te : ∀ x, E x → tag x = .evs
  tp : tag pb = .top
  td : tag db = .dead
  tb : ∀ i, i < k → tag (cb i) = .chip i
  tg : ∀ i j, i < k → j < b → tag (cb i + 1 + j) = .pages i j
  only : ∀ x, (tag x).mut = true → x = pb ∨ x = db ∨ (∃ i, i < k ∧ x = cb i) ∨ ∃ i j, i < k ∧ j < b ∧ x = cb i + 1 + j
  lt : ∀ x, tag x ≠ .none → B0 ≤ x ∧ x < wr.heap.size
  ge : g0 < B0 ∧ w.heap.size ≤ B0 ∧ B0 ≤ wr.heap.size

theorem upd1_other {α : Type} {f : Nat → α} {c x : Nat} {v : α} (h : x ≠ c) : upd1 f c v x = f x := if_neg h
theorem cvRow_succ (cb : Nat → Nat) (b k q : Nat) : cvRow (upd1 cb k q) b (k + 1) = cvRow cb b k ++ [.slice (some ⟨q, 0, none⟩) b b] := by
  unfold cvRow
  rw [List.range_succ, List.map_append]
  congr 1
  · apply List.map_congr_left
    intro i hi
    have := List.mem_range.mp hi
    rw [upd1_other (by omega)]
  · simp [upd1]
theorem NewInv.step {c b p s pb db g0 B0 : Nat} {ea : Option Addr} {ec : Nat} {xs : List Ev} {w wz : World} {E : Nat → Prop} {k : Nat} {cb : Nat → Nat} {tag : Nat → Tag} {cv cv' : Value} {wr w3 w4 w5 : World}
    (h : NewInv c b p s pb db g0 B0 ea ec xs w wz E k cb tag cv wr) (hb3 : Below wr.heap.size wr w3) (hsz : w3.heap.size = wr.heap.size + 1 + b) (hrow : Row w3 wr.heap.size (b * 4) (rowCell wr.heap.size p b)) (hpg : ∀ j, j < b → Row w3 (wr.heap.size + 1 + j) (p * 2) fun _ => nilV)
    (hb4 : Below w3.heap.size w3 w4) (hown : w5.ownsRow B0 86 1 cv' (k + 1) (cvRow (upd1 cb k wr.heap.size) b (k + 1))) (hg : w4.grownBy w5 cv.ownBlock) (hnew : ∀ g, cv'.ownBlock = some g → cv.ownBlock = some g ∨ w4.heap.size ≤ g) (hcv : NB cv') :
    ∃ tag', NewInv c b p s pb db g0 B0 ea ec xs w wz E (k + 1) (upd1 cb k wr.heap.size) tag' cv' (w5.setCell ⟨pb, 4, none⟩ cv') := by
  obtain ⟨q, hq⟩ : ∃ q, q = wr.heap.size := ⟨_, rfl⟩
  rw [← hq] at hb3 hsz hrow hpg hown ⊢
  have hs4 := hb4.size
  have hs5 := hg.size
  have hqt : ∀ x, tag x ≠ .none → x < q := fun x hx => by rw [hq]; exact (h.lt x hx).2
  have hO5 : Only (fun x => cv.ownBlock = some x) wr w5 := (((Only.of_below hb3).trans (Only.new hb4 fun _ => False) (fun _ _ => False.elim)).mono fun x hx (hq' : q ≤ x) => by omega).trans (Only.of_grown hg) fun _ _ h => h
  have hO6 : Only (fun x => cv.ownBlock = some x ∨ x = pb) wr (w5.setCell ⟨pb, 4, none⟩ cv') := (hO5.mono fun _ _ h => .inl h).trans (Only.of_set w5 ⟨pb, 4, none⟩ cv') fun _ _ h => .inr h
  have hO36 : Only (fun x => cv.ownBlock = some x ∨ x = pb) w3 (w5.setCell ⟨pb, 4, none⟩ cv') := by
    have h1 : Only (fun x => cv.ownBlock = some x) w3 w5 := (Only.new hb4 fun x => cv.ownBlock = some x).trans (Only.of_grown hg) fun _ _ h => h
    exact (h1.mono fun _ _ h => .inl h).trans (Only.of_set w5 ⟨pb, 4, none⟩ cv') fun _ _ h => .inr h
  have hpb := hqt pb (by rw [h.tp]; simp)
  have hdb := hqt db (by rw [h.td]; simp)
  have hown_lt : ∀ x, cv.ownBlock = some x → x < q := fun x hx => hqt x (by rw [h.rowt x hx]; simp)
  have hne : ∀ x t, tag x = t → t ≠ .chips → t ≠ .top → ¬ (cv.ownBlock = some x ∨ x = pb) := fun x t e h1 h2 hx => by
    rcases hx with hx | rfl
    · exact h1 (e.symm.trans (h.rowt x hx))
    · exact h2 (e.symm.trans h.tp)
  have hnq : ∀ x, q ≤ x → ¬ (cv.ownBlock = some x ∨ x = pb) := fun x hx hh => by
    rcases hh with hh | rfl
    · have := hown_lt x hh; omega
    · omega
  refine ⟨fun x => if x = q then .chip k else if q < x ∧ x ≤ q + b then .pages k (x - q - 1) else if cv'.ownBlock = some x then .chips else tag x, ?_⟩
  have htag : ∀ x t, tag x = t → t ≠ .none → t ≠ .chips → (if x = q then Tag.chip k else if q < x ∧ x ≤ q + b then .pages k (x - q - 1) else if cv'.ownBlock = some x then .chips else tag x) = t := fun x t e h1 h2 => by
    have hx := hqt x (by rw [e]; exact h1)
    rw [if_neg (by omega), if_neg (by omega), if_neg, e]
    intro hc
    rcases hnew x hc with h3 | h3
    · exact h2 (e.symm.trans (h.rowt x h3))
    · omega
  have hgg := h.ge
  refine ⟨?_, ?_, ?_, ?_, ?_, ?_, ?_, ?_, ?_, ?_, ?_, ?_, ?_, ?_, ?_, ?_, ?_, ?_⟩
  · refine hO6.at h.geo fun hx => ?_
    rcases hx with hx | hx
    · have := (h.lt g0 (by rw [h.rowt g0 hx]; simp)).1; omega
    · have := (h.lt pb (by rw [h.tp]; simp)).1; omega
  · refine h.bel.trans (hO6.below h.bel.size fun x hx hh => ?_)
    rcases hh with hh | hh
    · have := (h.lt x (by rw [h.rowt x hh]; simp)).1; omega
    · have := (h.lt pb (by rw [h.tp]; simp)).1; omega
  · have h5 := hO5.at h.top (fun hx => by have := h.rowt pb hx; rw [h.tp] at this; cases this)
    have := set_at (o := 4) h5 cv'
    simp only [List.setIfInBounds_toArray, List.set_cons_zero, List.set_cons_succ] at this
    exact this
  · refine own_only hown (Only.of_set w5 ⟨pb, 4, none⟩ cv') fun x hx hh => ?_
    have hh : x = pb := hh
    subst hh
    rcases hnew x hx with h3 | h3
    · have := h.rowt x h3; rw [h.tp] at this; cases this
    · omega
  · intro g hg'
    rcases hnew g hg' with h3 | h3
    · have := hown_lt g h3
      rw [if_neg (by omega), if_neg (by omega), if_pos hg']
    · rw [if_neg (by omega), if_neg (by omega), if_pos hg']
  · intro g hg'
    have hz := h.old.size
    rcases hnew g hg' with h3 | h3
    · exact h.rown g h3
    · omega
  · exact h.dead.only hO6 (hne _ _ h.td (by simp) (by simp))
  · intro i hi
    by_cases e : i = k
    · subst e
      rw [upd1_same]
      exact hrow.only hO36 (hnq q (Nat.le_refl _))
    · rw [upd1_other e]
      exact (h.blk i (by omega)).only hO6 (hne _ _ (h.tb i (by omega)) (by simp) (by simp))
  · intro i j hi hj
    by_cases e : i = k
    · subst e
      rw [upd1_same]
      exact (hpg j hj).only hO36 (hnq _ (by omega))
    · rw [upd1_other e]
      exact (h.pgs i j (by omega) hj).only hO6 (hne _ _ (h.tg i j (by omega) hj) (by simp) (by simp))
  · refine h.old.trans hO6 fun x hx hT => ?_
    rcases hT with hT | hT
    · have := h.rown x hT; omega
    · exact hT
  · exact fun x hx => htag _ _ (h.te x hx) (by simp) (by simp)
  · exact htag _ _ h.tp (by simp) (by simp)
  · exact htag _ _ h.td (by simp) (by simp)
  · intro i hi
    by_cases e : i = k
    · subst e; rw [upd1_same, if_pos rfl]
    · rw [upd1_other e]; exact htag _ _ (h.tb i (by omega)) (by simp) (by simp)
  · intro i j hi hj
    by_cases e : i = k
    · subst e; rw [upd1_same, if_neg (by omega), if_pos (by omega)]; congr 1; omega
    · rw [upd1_other e]; exact htag _ _ (h.tg i j (by omega) hj) (by simp) (by simp)
  · intro x hx
    by_cases e1 : x = q
    · exact .inr (.inr (.inl ⟨k, by omega, by rw [upd1_same]; exact e1⟩))
    · by_cases e2 : q < x ∧ x ≤ q + b
      · exact .inr (.inr (.inr ⟨k, x - q - 1, by omega, by omega, by rw [upd1_same]; omega⟩))
      · rw [if_neg e1, if_neg e2] at hx
        by_cases e3 : cv'.ownBlock = some x
        · rw [if_pos e3] at hx; simp [Tag.mut] at hx
        · rw [if_neg e3] at hx
          rcases h.only x hx with h1 | h1 | ⟨i, hi, h1⟩ | ⟨i, j, hi, hj, h1⟩
          · exact .inl h1
          · exact .inr (.inl h1)
          · exact .inr (.inr (.inl ⟨i, by omega, by rw [upd1_other (by omega)]; exact h1⟩))
          · exact .inr (.inr (.inr ⟨i, j, by omega, hj, by rw [upd1_other (by omega)]; exact h1⟩))
  · intro x hx
    have hs6 : (w5.setCell ⟨pb, 4, none⟩ cv').heap.size = w5.heap.size := size_set _ _ _
    rw [hs6]
    by_cases e1 : x = q
    · omega
    · by_cases e2 : q < x ∧ x ≤ q + b
      · omega
      · rw [if_neg e1, if_neg e2] at hx
        by_cases e3 : cv'.ownBlock = some x
        · have := hown.lt x e3; exact this
        · rw [if_neg e3] at hx
          have := h.lt x hx; omega
  · have hs6 : (w5.setCell ⟨pb, 4, none⟩ cv').heap.size = w5.heap.size := size_set _ _ _
    omega

theorem REv.self {w : World} {a : Option Addr} {cap : Nat} {xs : List Ev} {S : Nat → Prop} (h : REv w a cap xs S) : REv w a cap xs (fun x => a.map (·.block) = some x) := by
  obtain ⟨h2, h3, h0, h4⟩ := h
  refine ⟨h2, h3, h0, h4.imp_right fun ⟨b, o, ha, _, hc⟩ => ⟨b, o, ha, by rw [ha]; rfl, hc⟩⟩
theorem NewInv.made {c b p s pb db g0 B0 : Nat} {ea : Option Addr} {ec : Nat} {xs : List Ev} {w wz : World} {cb : Nat → Nat} {tag : Nat → Tag} {cv : Value} {wr : World}
    (h : NewInv c b p s pb db g0 B0 ea ec xs w wz (fun x => ea.map (·.block) = some x) (c + 1) cb tag cv wr) (hev : REv wz ea ec xs (fun x => ea.map (·.block) = some x)) (hnb : NoByte wz pb) (hg : geoOk c b p s) (hxl : xs.length ≤ 200) (hxo : evsOk xs) :
    ∃ L : NdLay, L.p = pb ∧ NdAt true wr L (Nd.fresh c b p s (fun _ _ => false) xs) ∧ ∀ x, L.tag x ≠ .none → B0 ≤ x := by
  obtain ⟨g1, g2, g3, g4, g5, g6, g7, g8, g9⟩ := hg
  rcases h.row.2 with ⟨_, h0⟩ | ⟨g, cap, cur, rfl, hgb, hgg, hnc, hcm, hcs, htk⟩
  · omega
  refine ⟨⟨pb, g, cap, db, c + 1, cb, fun _ => b, fun i j => cb i + 1 + j, fun _ _ => p, fun _ _ _ => nilV, ea, ec, tag⟩, rfl, ?_, fun x hx => (h.lt x hx).1⟩
  refine ⟨?_, ?_, fun o ho => ?_, h.dead, fun i hi => ?_, fun i j hi hj => ?_, fun i j k hi hj hk => .inl ⟨rfl, rfl, rfl⟩, ?_, ⟨⟨hnc, hcm⟩, ⟨Nat.le_refl _, by show c + 1 ≤ maxLen; unfold maxLen; omega⟩, fun _ _ => ⟨Nat.le_refl _, by show b ≤ maxLen; unfold maxLen; omega⟩, fun _ _ _ _ => ⟨Nat.le_refl _, by show p ≤ maxLen; unfold maxLen; omega⟩⟩, h.tp, h.td, h.rowt g rfl, fun i hi => h.tb i (Nat.lt_succ_of_le hi), fun i j hi hj => h.tg i j (Nat.lt_succ_of_le hi) hj, fun x hx => ?_, fun x hx => (h.lt x hx).2⟩
  · exact ⟨⟨by show 1 ≤ c; omega, by show c ≤ 16; omega⟩, ⟨by show 1 ≤ b; omega, by show b ≤ 64; omega⟩, ⟨by show 1 ≤ p; omega, by show p ≤ 32; omega⟩, ⟨by show 1 ≤ s; omega, by show s ≤ 1024; omega⟩, fun _ _ _ => .inl rfl, fun _ _ => Nat.zero_le _, fun _ _ => Nat.zero_le _, hxo, by show xs.length ≤ 1000; omega, by show 0 ≤ 1000000; omega⟩
  · exact h.top
  · have := h.row.cells (g := g) rfl o (.slice (some ⟨cb o, 0, none⟩) b b) (by
      show (cvRow cb b (c + 1))[o]? = _
      unfold cvRow
      rw [List.getElem?_map, List.getElem?_range (show o < c + 1 from ho)]; rfl)
    rwa [add_plain, Nat.zero_add] at this
  · refine (h.blk i (Nat.lt_succ_of_le hi)).congr fun o ho => ?_
    unfold rowCell blkCells
    have : o / 4 < b := by have : o < b * 4 := ho; omega
    simp only [if_pos this]
    have : o % 4 = 0 ∨ o % 4 = 1 ∨ o % 4 = 2 ∨ o % 4 = 3 := by omega
    rcases this with e | e | e | e <;> simp [e, Nd.fresh]
  · exact h.pgs i j (Nat.lt_succ_of_le hi) hj
  · exact (hev.only h.old (fun x _ e he => by
      have h1 := h.te x he
      have e : x = pb := e
      rw [e, h.tp] at h1; cases h1) (fun x _ e => by rw [e]; exact hnb)).mono fun x _ he => h.te x he
  · rcases h.only x hx with h1 | h1 | ⟨i, hi, h1⟩ | ⟨i, j, hi, hj, h1⟩
    · exact .inl h1
    · exact .inr (.inl h1)
    · exact .inr (.inr (.inl ⟨i, Nat.le_of_lt_succ hi, h1⟩))
    · exact .inr (.inr (.inr ⟨i, j, Nat.le_of_lt_succ hi, hj, h1⟩))

set_option maxRecDepth 100000 in
set_option maxHeartbeats 4000000 in
theorem new_yes (c b p s : Nat) (vb : Value) (bads : List (Int × Int)) (ea : Option Addr) (ec : Nat) (xs : List Ev) (w : World) (hb : RPair w vb bads) (hbl : bads.length ≤ 100000) (he : REv w ea ec xs (fun _ => True)) (hg : geoOk c b p s) (hxl : xs.length ≤ 200) (hxo : evsOk xs) :
    Calls Try.prog 10 #[geoV c b p s, vb, .slice ea xs.length ec] w (NewEnds c b p s bads xs w) := by
  have hch := gcheck_calls c b p s (w.alloc (.cells #[.int .i64 c, .int .i64 b, .int .i64 p, .int .i64 s] 29))
  unfold CheckEnds at hch
  rw [if_pos hg] at hch
  have hbel := (Below.refl w.heap.size w).alloc (Nat.le_refl _) (.cells #[.int .i64 c, .int .i64 b, .int .i64 p, .int .i64 s] 29)
  have hG : (w.alloc (.cells #[.int .i64 c, .int .i64 b, .int .i64 p, .int .i64 s] 29)).heap[w.heap.size]? = some (.cells #[.int .i64 c, .int .i64 b, .int .i64 p, .int .i64 s] 29 (0, 0)) := heap_is rfl
  have HG := Lib.hid hg
  obtain ⟨g1, g2, g3, g4, g5, g6, g7, g8, g9⟩ := hg
  have HG9 := Lib.hid g9
  clear g9
  have hmk1 : ∀ w, (Instr.makeSlice 59 (.int .i64 ((c : Int) + 1)) (.int .i64 ((c : Int) + 1))).run Try.prog w = .ok (.slice (some ⟨w.heap.size, 0, none⟩) (c + 1) (c + 1)) (w.alloc (.cells (madeCells #[.bool false] (c + 1)) 4)) := fun w => by
    have := make_any Try.underlying59 infoBool (c + 1) (by omega) (by omega) w
    rw [Int.natCast_add, Nat.mul_one] at this
    exact this
  have HCH := Lib.hid hch
  have HBAD := Lib.hid hb
  obtain ⟨g0, hg0⟩ : ∃ g0, g0 = w.heap.size := ⟨_, rfl⟩
  rw [← hg0] at hG
  clear hch
  go_enter Try.func10, Try.ntmps10
  go_wp2_with fail
  refine HCH.out.mono ?_
  rintro e w1 ⟨rfl, hb1⟩
  have hb1' := hbel.trans (hb1.mono hbel.size)
  have hG1 := heap_keep hb1 hG
  rw [← hg0]
  have hw1 := hb1'.size
  have hw1' : g0 < w1.heap.size := heap_lt hG1
  have hg0w : w.heap.size ≤ g0 := by omega
  have hE1 := he.below hb1'
  have hB1 := hb.below hb1'
  have HX := Lib.hid (⟨hb1', hE1, hB1⟩ : _ ∧ _ ∧ _)
  obtain ⟨B0, hB0⟩ : ∃ B0, B0 = w1.heap.size := ⟨_, rfl⟩
  obtain ⟨K, hKd⟩ : ∃ K, K = [(g0, Obj.cells #[.int .i64 c, .int .i64 b, .int .i64 p, .int .i64 s] 29 (0, 0))] := ⟨_, rfl⟩
  have hHeld : Held K w1 := fun x hx => by
    rw [hKd] at hx
    obtain rfl : x = _ := by simpa using hx
    exact hG1
  have k0 : ∀ w', Held K w' → w'.cell? ⟨g0, 0, none⟩ = some (.int .i64 c) := fun w' h => h.cell (by rw [hKd]; exact List.mem_cons_self) 0 _ rfl
  have k1 : ∀ w', Held K w' → w'.cell? ⟨g0, 1, none⟩ = some (.int .i64 b) := fun w' h => h.cell (by rw [hKd]; exact List.mem_cons_self) 1 _ rfl
  have k2 : ∀ w', Held K w' → w'.cell? ⟨g0, 2, none⟩ = some (.int .i64 p) := fun w' h => h.cell (by rw [hKd]; exact List.mem_cons_self) 2 _ rfl
  have k3 : ∀ w', Held K w' → w'.cell? ⟨g0, 3, none⟩ = some (.int .i64 s) := fun w' h => h.cell (by rw [hKd]; exact List.mem_cons_self) 3 _ rfl
  have hA : BornA K B0 (fun w' => Below w1.heap.size w1 w') (fun b => b < B0) w1.drew := ⟨hHeld.below (Below.refl _ _).drew, rfl, by rw [hB0]; exact Nat.le_refl _, (Below.refl _ _).drew⟩
  have hgood : Good (Held K) (BornA K B0 (fun w' => Below w1.heap.size w1 w')) := BornA.good fun w' o h1 h2 => h2.alloc h2.size o
  have HK := Lib.hid hKd
  have HB0 := Lib.hid hB0
  clear HCH hG hbel hb he hb1 hb1' hE1 hB1 hG1 hHeld hg0 hKd hB0
  go_wp2_with fail
  (refine wp_region_born [.soft 0, .soft 1, .soft 2, .soft 3, .soft 5, .ann 4, .hard 6, .take 4, .soft 7, .ann 8, .take 8, .soft 9] [(true, false), (true, true), (true, false), (true, true), (false, false), (true, true), (false, false), (true, true), (false, false), (true, true)] [0, 0, 2, 6, 14, 0, 32, 127, 255, 511] (Held K) (BornA K B0 (fun w' => Below w1.heap.size w1 w')) (fun b => b < B0) (by kernel_rfl) (by kernel_rfl) ?_ ?_ ?_)
  · exact hgood
  · exact hA
  clear hA hgood
  have hwr : IntKind.i64.wrap ((c : Int) + 1) = (c : Int) + 1 := IntWalk.i64_in _ (by omega)
  iterate 5 (first | (refine bx_pure rfl (fun KK hKK => ?_); go_simp; refine hKK _ ?_; clear hKK KK) | (refine bx_load rfl rfl ?_ (fun KK hKK => ?_); (focus (first | rfl | (go_simp; done))); apply Exists.intro; apply And.intro; (focus (intro w' hC; go_simp; exact rfl)); go_simp; refine hKK _ ?_; clear hKK KK) | (refine bx_skip rfl ?_ (fun KK hKK => ?_); (focus (first | rfl | (go_simp; done))); go_simp; refine hKK _ ?_; clear hKK KK))
  (apply bx_ann rfl; (focus (intro w n hL hn; go_simp; (first | exact ⟨rfl, rfl⟩ | exact rfl))))
  refine bx_one rfl (by first | rfl | (go_simp; done)) (fun G wc hA R hR hX => ?_)
  obtain ⟨hH, rfl, hsz, hbw⟩ := hA
  obtain ⟨hb1', hE1, hB1⟩ := HX.out
  refine wpList_copy_ev rfl _ _ rfl rfl ea ec xs _ rfl (hE1.below hbw) (by omega) ?_
  intro ea' ec' w2 hE2 hT2 hg2
  have hb2 := below_grown_none hg2
  simp only [wpList]
  refine hR _ _ rfl ⟨BornA K B0 (fun w' => Below w1.heap.size w1 w' ∧ REv w' ea' ec' xs (fun x => B0 ≤ x) ∧ EvTyped w' B0 ea'), fun b => b < B0, BornA.good fun w' o h1 h2 => ⟨h2.1.alloc h2.1.size o, h2.2.1.alloc o, h2.2.2.alloc o⟩, ⟨hH.below hb2, rfl, by have := hb2.size; omega, hbw.trans (hb2.mono hbw.size), hE2.mono (fun x _ h => by have : wc.heap.size ≤ x := h; omega), hT2.mono hsz⟩, Only.new hb2 _, fun _ h => .inl h, ?_⟩
  clear hR hX R hE2 hT2 hg2 hb2 hH hbw hsz hb1' hE1 hB1
  (refine bx_take rfl rfl (fun db KK hKK => ?_); go_simp; refine hKK _ ?_; clear hKK KK)
  (first | (refine bx_pure rfl (fun KK hKK => ?_); go_simp; refine hKK _ ?_; clear hKK KK) | (refine bx_load rfl rfl ?_ (fun KK hKK => ?_); (focus (first | rfl | (go_simp; done))); apply Exists.intro; apply And.intro; (focus (intro w' hC; go_simp; exact rfl)); go_simp; refine hKK _ ?_; clear hKK KK) | (refine bx_skip rfl ?_ (fun KK hKK => ?_); (focus (first | rfl | (go_simp; done))); go_simp; refine hKK _ ?_; clear hKK KK))
  (apply bx_ann rfl; (focus (intro w n hL hn; go_simp; (first | exact ⟨rfl, rfl⟩ | exact rfl))))
  (refine bx_take rfl rfl (fun pb KK hKK => ?_); go_simp; refine hKK _ ?_; clear hKK KK)
  (first | (refine bx_pure rfl (fun KK hKK => ?_); go_simp; refine hKK _ ?_; clear hKK KK) | (refine bx_load rfl rfl ?_ (fun KK hKK => ?_); (focus (first | rfl | (go_simp; done))); apply Exists.intro; apply And.intro; (focus (intro w' hC; go_simp; exact rfl)); go_simp; refine hKK _ ?_; clear hKK KK) | (refine bx_skip rfl ?_ (fun KK hKK => ?_); (focus (first | rfl | (go_simp; done))); go_simp; refine hKK _ ?_; clear hKK KK))
  refine bx_done (fun G wz hz => ?_)
  obtain ⟨⟨⟨hH, rfl, hsz, hbw, hEv, hTy⟩, hdb, hndb⟩, hpb, hnpb⟩ := hz
  obtain ⟨hb1', hE1, hB1⟩ := HX.out
  have hK0 := hH (g0, Obj.cells #[.int .i64 c, .int .i64 b, .int .i64 p, .int .i64 s] 29 (0, 0)) (by rw [HK.out]; exact List.mem_cons_self)
  have hBz : Below w.heap.size w wz := hb1'.trans (hbw.mono hb1'.size)
  have hBB := hB1.below hbw
  have hwB : w.heap.size ≤ B0 := by rw [HB0.out]; exact hb1'.size
  have hgB : g0 < B0 := by
    rw [HB0.out]; exact hw1'
  have hdead : Row wz db (c + 1) fun _ => .bool false := Row.mk' hdb (fun o ho => by have := made_get #[Value.bool false] (c + 1) o ho (by decide); rw [this]; simp [Nat.mod_one]) fun x hx => by
    obtain ⟨i, hi, rfl⟩ := Array.mem_iff_getElem.mp hx
    have hs := size_madeCells #[Value.bool false] (c + 1)
    have := made_get #[Value.bool false] (c + 1) i (by omega) (by decide)
    rw [Array.getElem?_eq_getElem hi] at this
    rw [Option.some.inj this]
    simp only [List.size_toArray, List.length_cons, List.length_nil, Nat.zero_add, Nat.mod_one]
    exact nb_bool _
  have hpd : pb ≠ db := fun e => by rw [e, hdb] at hpb; simp at hpb
  have hinv : NewInv c b p s pb db g0 B0 ea' ec' xs w wz (fun x => ea'.map (·.block) = some x) 0 (fun _ => 0) (fun x => if x = pb then .top else if x = db then .dead else if ea'.map (·.block) = some x then .evs else .none) (.slice none 0 0) wz := by
    refine ⟨hK0, hBz, hpb, World.ownsRow_nil _ _ _ _, fun g h => by simp [Value.ownBlock] at h, fun g h => by simp [Value.ownBlock] at h, hdead, fun i hi => by omega, fun i j hi => by omega, Only.refl _ _, fun x hx => ?_, if_pos rfl, ?_, fun i hi => by omega, fun i j hi => by omega, fun x hx => ?_, fun x hx => ?_, ⟨hgB, hwB, hsz⟩⟩
    · obtain ⟨ad, rfl, hb⟩ := Option.map_eq_some_iff.mp hx
      obtain ⟨-, cs, fz, hh⟩ := hTy x ad.off ad.spot (by rw [← hb])
      rw [if_neg (fun e => by rw [e, hpb] at hh; simp at hh), if_neg (fun e => by rw [e, hdb] at hh; simp at hh), if_pos hx]
    · rw [if_neg (fun e => hpd e.symm), if_pos rfl]
    · by_cases e1 : x = pb
      · exact .inl e1
      · by_cases e2 : x = db
        · exact .inr (.inl e2)
        · rw [if_neg e1, if_neg e2] at hx
          split at hx <;> simp [Tag.mut] at hx
    · by_cases e1 : x = pb
      · subst e1; exact ⟨by have : ¬ x < B0 := hnpb; omega, heap_lt hpb⟩
      · by_cases e2 : x = db
        · subst e2; exact ⟨by have : ¬ x < B0 := hndb; omega, heap_lt hdb⟩
        · rw [if_neg e1, if_neg e2] at hx
          by_cases e3 : ea'.map (·.block) = some x
          · obtain ⟨ad, rfl, hb⟩ := Option.map_eq_some_iff.mp e3
            obtain ⟨h1, cs, fz, hh⟩ := hTy x ad.off ad.spot (by rw [← hb])
            exact ⟨h1, heap_lt hh⟩
          · rw [if_neg e3] at hx; exact absurd rfl hx
  have HZ := Lib.hid (⟨hEv, hTy, hBB, hpb⟩ : _ ∧ _ ∧ _ ∧ _)
  clear hH hndb hnpb hb1' hE1 hB1 hK0 hBz hBB hdead hpd hTy hEv hdb hpb hbw
  have hmk2 : ∀ w, (Instr.makeSlice 86 (.int .i64 b) (.int .i64 b)).run Try.prog w = .ok (.slice (some ⟨w.heap.size, 0, none⟩) b b) (w.alloc (.cells (madeCells #[.slice none 0 0, .int .i64 0, .int .i64 0, .bool false] (b * 4)) 89)) := fun w => make_any Try.underlying86 infoBlk b (by omega) (by omega) w
  have hmk3 : ∀ w, (Instr.makeSlice 87 (.int .i64 p) (.int .i64 p)).run Try.prog w = .ok (.slice (some ⟨w.heap.size, 0, none⟩) p p) (w.alloc (.cells (madeCells #[.slice none 0 0, .slice none 0 0] (p * 2)) 96)) := fun w => make_any Try.underlying87 infoPage p (by omega) (by omega) w
  have hk0 := hinv.geo
  have hk0_0 := cells_at hk0 0 _ rfl
  clear hk0 hmk1 hwr k0 k1 k2 k3
  go_wp2_with fail
  clear hk0_0
  go_loopw [34] (fun i wr => ∃ k : Nat, k ≤ c + 1 ∧ i = .int .i64 k ∧ ∃ cb tag cv, NewInv c b p s pb db g0 B0 ea' ec' xs w wz (fun x => ea'.map (·.block) = some x) k cb tag cv wr) (fun i _ => c + 1 - (intOf i).toNat)
  case atStart => exact ⟨0, Nat.zero_le _, rfl, _, _, _, hinv⟩
  case round =>
    clear hinv
    obtain ⟨k, hk, rfl, cb, tag, cv, hI⟩ := hrel
    generalize wr = wo at hI ⊢
    by_cases hlt : k < c + 1
    · have hlt' : (k : Int) < (c : Int) + 1 := by omega
      have hk0 := hI.geo
      have hk0_1 := cells_at hk0 1 _ rfl
      have hk0_2 := cells_at hk0 2 _ rfl
      have hlg := heap_lt hk0
      simp only [List.getElem_toArray, List.getElem_cons_succ, List.getElem_cons_zero] at hk0_1 hk0_2
      obtain ⟨q, hq⟩ : ∃ q, q = wo.heap.size := ⟨_, rfl⟩
      have hrow0 : Row (wo.alloc (.cells (madeCells #[.slice none 0 0, .int .i64 0, .int .i64 0, .bool false] (b * 4)) 89)) q (b * 4) (rowCell q p 0) := by
        refine (Row.made (z := #[.slice none 0 0, .int .i64 0, .int .i64 0, .bool false]) hq (by decide) (fun v hv => ?_)).congr fun o ho => ?_
        · simp at hv
          rcases hv with rfl | rfl | rfl
          · exact nb_slice _ _ _
          · exact nb_i64 _
          · exact nb_bool _
        · unfold rowCell
          have : o % 4 = 0 ∨ o % 4 = 1 ∨ o % 4 = 2 ∨ o % 4 = 3 := by omega
          rcases this with e | e | e | e <;> simp [e, nilV]
      have hbel0 : Below q wo (wo.alloc (.cells (madeCells #[.slice none 0 0, .int .i64 0, .int .i64 0, .bool false] (b * 4)) 89)) := by rw [hq]; exact (Below.refl _ _).alloc (Nat.le_refl _) _
      have hsz0 : (wo.alloc (.cells (madeCells #[.slice none 0 0, .int .i64 0, .int .i64 0, .bool false] (b * 4)) 89)).heap.size = q + 1 + 0 := by rw [hq]; simp
      go_wp2_with fail
      rw [← hq]
      generalize wo.alloc (.cells (madeCells #[.slice none 0 0, .int .i64 0, .int .i64 0, .bool false] (b * 4)) 89) = wa at hrow0 hbel0 hsz0 ⊢
      go_loopw [41] (fun i wi => ∃ j : Nat, j ≤ b ∧ i = .int .i64 j ∧ wi.heap.size = q + 1 + j ∧ Row wi q (b * 4) (rowCell q p j) ∧ (∀ i, i < j → Row wi (q + 1 + i) (p * 2) fun _ => nilV) ∧ Below q wo wi) (fun i _ => b - (intOf i).toNat)
      case atStart => exact ⟨0, Nat.zero_le _, rfl, hsz0, hrow0, fun i hi => by omega, hbel0⟩
      case round =>
        clear hrow0 hbel0 hsz0
        obtain ⟨j, hj, rfl, hsz, hrow, hpgs, hbel⟩ := hrel
        by_cases hjl : j < b
        · have hI0 := hI.geo
          have hgq : g0 < q := by rw [hq]; exact heap_lt hI0
          have hgw : wr.heap[g0]? = some (.cells #[.int .i64 c, .int .i64 b, .int .i64 p, .int .i64 s] 29 (0, 0)) := by rw [hbel.block g0 hgq]; exact hI0
          have hk2 := cells_at hgw 2 _ rfl
          simp only [List.getElem_toArray, List.getElem_cons_succ, List.getElem_cons_zero] at hk2
          have hlt2 := heap_lt hgw
          have hj' : (j : Int) < (b : Int) := by omega
          have hc := hrow.cell (o := j * 4) (by omega)
          have hcf := hrow.froz (j * 4)
          have hlq := hrow.lt
          have hcv : rowCell q p j (j * 4) = nilV := by
            unfold rowCell
            rw [if_pos (by omega), if_neg (by omega)]
          rw [hcv] at hc
          unfold nilV at hc
          clear hI0 hgw hcv hk0 hk0_1 hk0_2
          have HQ := Lib.hid hq
          have HSZ := Lib.hid hsz
          clear hq hsz
          go_wp2_with fail
          go_roundw
          case rel =>
            have hsz := HSZ.out
            have hs1 : ((wr.setCell ⟨q, j * 4, none⟩ (.slice (some ⟨wr.heap.size, 0, none⟩) p p))).heap.size = wr.heap.size := size_set _ _ _
            have hal := (Below.refl (wr.setCell ⟨q, j * 4, none⟩ (.slice (some ⟨wr.heap.size, 0, none⟩) p p)).heap.size (wr.setCell ⟨q, j * 4, none⟩ (.slice (some ⟨wr.heap.size, 0, none⟩) p p))).alloc (Nat.le_refl _) (.cells (madeCells #[.slice none 0 0, .slice none 0 0] (p * 2)) 96)
            refine ⟨j + 1, by omega, by go_num, ?_, ?_, fun i hi => ?_, ?_⟩
            · simp only [World.alloc, Array.size_push, hs1]; omega
            · refine (((hrow.set (o := j * 4) (.slice (some ⟨wr.heap.size, 0, none⟩) p p) (by omega) (nb_slice _ _ _)).below hal)).congr fun o ho => ?_
              by_cases e : o = j * 4
              · subst e
                rw [if_pos rfl]
                unfold rowCell
                rw [if_pos (by omega), if_pos (by omega), hsz, show j * 4 / 4 = j by omega]
              · rw [if_neg e]
                unfold rowCell
                by_cases e4 : o % 4 = 0
                · rw [if_pos e4, if_pos e4]
                  by_cases e5 : o / 4 < j
                  · rw [if_pos e5, if_pos (by omega)]
                  · rw [if_neg e5, if_neg (by omega)]
                · rw [if_neg e4, if_neg e4]
            · by_cases e : i = j
              · subst e
                refine (Row.made (z := #[.slice none 0 0, .slice none 0 0]) (by rw [hs1]; omega) (by decide) (fun v hv => ?_)).congr fun o ho => ?_
                · simp at hv; subst hv; exact nb_slice _ _ _
                · have : o % 2 = 0 ∨ o % 2 = 1 := by omega
                  rcases this with e | e <;> simp [e, nilV]
              · exact ((hpgs i (by omega)).other ⟨q, j * 4, none⟩ _ (by show q + 1 + i ≠ q; omega)).below hal
            · exact (hbel.setCell (by exact Nat.le_refl q) _).alloc (by rw [hs1]; omega) _
          case measure => simp [intOf]; omega
        · obtain rfl : j = b := by omega
          have hI4 := hI.top
          have hpq : pb < q := by rw [hq]; exact heap_lt hI4
          have hpw := hI4
          rw [← hbel.block pb hpq] at hpw
          have hp4 := cells_at hpw 4 _ rfl
          have hp4f := froz_at hpw 4
          simp only [List.getElem_toArray, List.getElem_cons_succ, List.getElem_cons_zero] at hp4
          have hlp := heap_lt hpw
          obtain ⟨ti, hti, hz0, hz1, hz2⟩ := info_parts infoBlkS
          have hcvs := own_slice hI.row
          obtain ⟨ca, ck, rfl⟩ := hcvs
          have hrw : wr.ownsRow B0 86 1 (.slice ca k ck) k (cvRow cb j k) := own_only hI.row (Only.of_below hbel) fun x hx (hqx : q ≤ x) => by
            have := (hI.lt x (by rw [hI.rowt x hx]; simp)).2; omega
          have HQ := Lib.hid hq
          have HSZ := Lib.hid hsz
          have HI := Lib.hid hI
          have hB0 : B0 ≤ wr.heap.size := by have := hI.ge; omega
          clear hq hsz hI4 hpw hk0 hk0_1 hk0_2 hI
          go_wp2_with (at_builtin; (refine wpList_append_row rfl _ _ 83 rfl B0 86 ti (.slice none 0 0) 24 Try.underlying83 hti hz0 hz1 hz2 rfl (.slice ca k ck) k (cvRow cb j k) rfl (hrw.alloc _) (.slice (some ⟨wr.heap.size, 0, none⟩) 1 1) [.slice (some ⟨q, 0, none⟩) j j] rfl (RV.single' _ _) (one_cell rfl) ?c3 ?c4 (by simp; omega) ?_))
          case c3 => simp; unfold maxLen; omega
          case c4 => simp; omega
          intro cv' w5 hown hg hnew
          have hI := HI.out
          have hb4 := (Below.refl wr.heap.size wr).alloc (Nat.le_refl _) (.cells #[.slice (some ⟨q, 0, none⟩) j j] 86)
          have hpw : wr.heap[pb]? = some (.cells #[.int .i64 c, .int .i64 j, .int .i64 p, .int .i64 s, .slice ca k ck, .slice (some ⟨db, 0, none⟩) (c + 1) (c + 1), .slice ea' xs.length ec', .int .i64 0, .bool false] 85 (0, 0)) := by rw [hbel.block pb hpq]; exact hI.top
          have hp5 := (Only.of_grown hg).at (heap_keep hb4 hpw) (fun hx => by have := hI.rowt pb hx; rw [hI.tp] at this; cases this)
          have hn4 := cells_at hp5 4 _ rfl
          have hn4f := froz_at hp5 4
          have hlp5 := heap_lt hp5
          simp only [List.getElem_toArray, List.getElem_cons_succ, List.getElem_cons_zero] at hn4
          have hown' : w5.ownsRow B0 86 1 cv' (k + 1) (cvRow (upd1 cb k wo.heap.size) j (k + 1)) := by
            rw [cvRow_succ, ← HQ.out]; exact hown
          have hcv' : NB cv' := by
            obtain ⟨a, n, e⟩ := own_slice hown'
            rw [e]; exact nb_slice _ _ _
          have hs := HSZ.out
          obtain ⟨tag', hstep⟩ := hI.step (by rw [← HQ.out]; exact hbel) (by rw [← HQ.out]; omega) (by rw [← HQ.out]; exact hrow) (by rw [← HQ.out]; exact hpgs) hb4 hown' hg (fun g h => (hnew g h).imp_right fun h => by simp; omega) hcv'
          have HST := Lib.hid hstep
          obtain ⟨a', k', rfl⟩ := own_slice hown'
          clear hown hown' hg hnew hI hp5 hp4 hp4f hstep hb4 hcv' hpw hrw hpgs hrow
          go_wp2_with fail
          go_roundw
          case rel => exact ⟨k + 1, by omega, by go_num, _, tag', _, HST.out⟩
          case measure => simp [intOf]; omega
    · obtain rfl : k = c + 1 := by omega
      obtain ⟨hEv, hTy, hBB, hpbz⟩ := HZ.out
      obtain ⟨L, hLp, hN, hLB⟩ := hI.made hEv.self (noByte_of hpbz fun o u hu => by
        have : u8v u ∈ (#[.int .i64 c, .int .i64 b, .int .i64 p, .int .i64 s, .slice none 0 0, .slice (some ⟨db, 0, none⟩) (c + 1) (c + 1), .slice ea' xs.length ec', .int .i64 0, .bool false] : Array Value) := Array.mem_of_getElem? hu
        simp [u8v] at this) HG.out hxl hxo
      have hbelr := hI.bel
      have hgeo := hI.geo
      have hgB' := hI.ge.1
      have HGG : ∀ w', Only L.S wo w' → w'.heap[g0]? = some (.cells #[.int .i64 c, .int .i64 b, .int .i64 p, .int .i64 s] 29 (0, 0)) := fun w' hb => hb.at hgeo fun h => by
        have := hLB g0 (NdLay.S_ne h); omega
      replace HGG := Lib.hid HGG
      clear hgeo
      have hwB := hI.ge.2.1
      clear hI hEv hTy hBB hpbz HZ hmk2 hmk3
      subst hLp
      obtain ⟨av, cv', rfl, hbl1, hbl2, -⟩ := id HBAD.out
      have hN0 : NdAt true wo L { Nd.fresh c b p s (fun _ _ => false) xs with bad := badOf (bads.take 0) } := hN
      clear hN
      go_wp2_with fail
      go_loopw [65] (fun i wr => ∃ k : Nat, k ≤ bads.length ∧ i = .int .i64 k ∧ badsOk c b (bads.take k) ∧ NdAt true wr L { Nd.fresh c b p s (fun _ _ => false) xs with bad := badOf (bads.take k) } ∧ Below w.heap.size w wr ∧ Only L.S wo wr) (fun i _ => bads.length - (intOf i).toNat)
      case atStart => exact ⟨0, Nat.zero_le _, rfl, (fun x hx => by simp at hx), hN0, hbelr, Only.refl _ _⟩
      case round =>
        clear hN0 hbelr
        obtain ⟨k, hkl, rfl, hok, hN, hbel, hbelo⟩ := hrel
        by_cases hlt : k < bads.length
        · obtain ⟨a2, cap2, e2, -, -, hx⟩ := HBAD.out.below hbel
          obtain ⟨bb, bo, rfl, hy⟩ := hx.resolve_left (fun e => by rw [e] at hlt; simp at hlt)
          simp only [Value.slice.injEq] at e2
          obtain ⟨rfl, -, rfl⟩ := e2
          obtain ⟨y0, y1⟩ := hy k hlt
          have hbb := cell_lt y0
          have htk : bads.take (k + 1) = bads.take k ++ [bads[k]] := List.take_succ_eq_append_getElem hlt
          have hmem : bads[k] ∈ bads := List.getElem_mem _
          have hnot : ¬ (0 ≤ bads[k].1 ∧ bads[k].1 ≤ c ∧ 0 ≤ bads[k].2 ∧ bads[k].2 < b) → ∀ w', Below w.heap.size w w' → NewEnds c b p s bads xs w (.returned (.tuple #[.pointer none, .int .i64 34])) w' := fun h w' h' => ⟨fun hh => absurd (hh.2.2 _ hmem) h, fun _ => ⟨rfl, h'⟩⟩
          have HNOT := Lib.hid hnot
          have hg0' : wr.heap[g0]? = some (.cells #[.int .i64 c, .int .i64 b, .int .i64 p, .int .i64 s] 29 (0, 0)) := HGG.out wr hbelo
          have hlg := heap_lt hg0'
          have gg0 := cells_at hg0' 0 _ rfl
          have gg1 := cells_at hg0' 1 _ rfl
          simp only [List.getElem_toArray, List.getElem_cons_succ, List.getElem_cons_zero] at gg0 gg1
          have HTK := Lib.hid htk
          generalize bads[k] = x at y0 y1 HTK HNOT
          obtain ⟨x0, x1⟩ := x
          simp only at y0 y1 HNOT
          have hal := (Below.refl wr.heap.size wr).alloc (Nat.le_refl _) (.cells #[.int .i64 x0, .int .i64 x1] 56)
          have hB1 := hbel.trans (hal.mono hbel.size)
          clear hx hy hnot htk hmem hg0'
          by_cases hin : 0 ≤ x0 ∧ x0 ≤ c ∧ 0 ≤ x1 ∧ x1 < b
          · obtain ⟨i1, i2, i3, i4⟩ := hin
            obtain ⟨n0, rfl⟩ : ∃ n : Nat, x0 = n := ⟨x0.toNat, by omega⟩
            obtain ⟨n1, rfl⟩ : ∃ n : Nat, x1 = n := ⟨x1.toNat, by omega⟩
            have e1 : decide ((n0 : Int) < 0) = false := by simp
            have e2 : decide ((c : Int) < n0) = false := by simp; omega
            have e3 : decide ((n1 : Int) < 0) = false := by simp
            have e4 : decide ((b : Int) ≤ n1) = false := by simp; omega
            have hm0 : n0 ≤ c := by omega
            have hm1 : n1 < b := by omega
            have hT := hN.top
            simp only [topCells, if_true] at hT
            have t4 := cells_at hT 4 _ rfl
            have hlp := heap_lt hT
            simp only [List.getElem_toArray, List.getElem_cons_succ, List.getElem_cons_zero] at t4
            replace t4 : wr.cell? ⟨L.p, 4, none⟩ = some (.slice (some ⟨L.cs, 0, none⟩) (c + 1) L.cc) := t4
            have tcs : wr.cell? ⟨L.cs, n0, none⟩ = some (.slice (some ⟨L.cb n0, 0, none⟩) b (L.bc n0)) := hN.chips.cell (o := n0) (show n0 < c + 1 by omega)
            have hlcs := cell_lt tcs
            have tb := (hN.blk n0 hm0).cell (o := n1 * 4 + 3) (show n1 * 4 + 3 < b * 4 by omega)
            rw [blkCells3] at tb
            have tbf := (hN.blk n0 hm0).froz (n1 * 4 + 3)
            have hlcb := (hN.blk n0 hm0).lt
            have hset := (hN.setBad (c := n0) (b := n1) hm0 hm1 true).congr (show _ = { Nd.fresh c b p s (fun _ _ => false) xs with bad := badOf (bads.take (k + 1)) } from by
              have : upd2 (badOf (bads.take k)) n0 n1 true = badOf (bads.take (k + 1)) := by
                funext i j
                rw [HTK.out]
                unfold upd2 badOf
                rw [List.any_append]
                by_cases e : i = n0 ∧ j = n1
                · obtain ⟨rfl, rfl⟩ := e; simp
                · rw [if_neg e]
                  have : ((n0 : Int) == (i : Int) && (n1 : Int) == (j : Int)) = false := by
                    simp only [Bool.and_eq_false_iff, beq_eq_false_iff_ne]; omega
                  simp [this]
              simp only [this])
            have hok' : badsOk c b (bads.take (k + 1)) := by
              rw [HTK.out]
              intro x hx
              rcases List.mem_append.mp hx with hx | hx
              · exact hok x hx
              · rw [List.mem_singleton.mp hx]; exact ⟨i1, i2, i3, i4⟩
            have hal2 := (Below.refl (wr.setCell ⟨L.cb n0, n1 * 4 + 3, none⟩ (.bool true)).heap.size (wr.setCell ⟨L.cb n0, n1 * 4 + 3, none⟩ (.bool true))).alloc (Nat.le_refl _) (.cells #[.int .i64 n0, .int .i64 n1] 56)
            have hN3 := hset.below hal2
            have hSb := hN.Sb (c := n0) hm0
            have hB3 : Below w.heap.size w ((wr.setCell ⟨L.cb n0, n1 * 4 + 3, none⟩ (.bool true)).alloc (.cells #[.int .i64 n0, .int .i64 n1] 56)) :=
              (hbel.setCell (by exact Nat.le_trans hwB (hLB _ (NdLay.S_ne hSb))) _).trans (hal2.mono (by rw [size_set]; exact hbel.size))
            have hO3 := (hbelo.set ⟨L.cb n0, n1 * 4 + 3, none⟩ (.bool true) (fun _ => hSb)).alloc (.cells #[.int .i64 n0, .int .i64 n1] 56)
            have HX := Lib.hid (⟨hok', hN3, hB3, hO3⟩ : _ ∧ _ ∧ _ ∧ _)
            have hc1 : (n0 : Int) < (c : Int) + 1 := by omega
            have hc2 : (n1 : Int) < (b : Int) := by omega
            clear hset hok' hN3 hB3 hO3 hal2 hT hN hal hB1 hok HNOT
            go_wp2_with fail
            (refine wp_region_mix [0, 1, 2, 3, 4, 5, 6, 7, 8, 9, 10, 11, 12] [(true, true), (true, true), (true, true), (true, false), (true, true), (true, false), (true, true), (true, false), (true, true), (true, false), (true, true), (true, true), (false, false)] [0, 1, 3, 7, 0, 16, 63, 127, 0, 256, 1023, 2047, 4095] _ (by kernel_rfl) (by kernel_rfl) (rfl : _ = _) ?_; simp only [pickL, List.map_cons, List.map_nil, List.getD_cons_succ, List.getD_cons_zero])
            (repeat (first | (refine mix_pure (fun hne K hK => ?_); go_simp; refine hK _ ?_; clear hK K hne) | (refine mix_load ?_ (fun K hK => ?_); (focus (first | rfl | (go_simp; done))); go_simp; refine hK _ ?_; clear hK K) | (refine mix_skip ?_ (fun K hK => ?_); (focus (first | rfl | (go_simp; done))); go_simp; refine hK _ ?_; clear hK K)))
            (refine mix_one (by first | rfl | (go_simp; done)) (fun R hR hX => ?_))
            go_wp2_with fail
            ((try simp only [wpList]); refine hR _ _ rfl ⟨fun w' => w' = _, rfl, (fun h => by cases h), ?_⟩; clear hR hX R)
            refine mix_done ?_
            go_wp2_with fail
            obtain ⟨h1, h2, h3, h4⟩ := HX.out
            go_roundw
            case rel => exact ⟨k + 1, by omega, by go_num, h1, h2.drew, h3.drew, h4.drew⟩
            case measure => simp [intOf]; omega
          · have HX := Lib.hid (HNOT.out hin _ hB1)
            have hbad : x0 < 0 ∨ (0 ≤ x0 ∧ (c : Int) < x0) ∨ (0 ≤ x0 ∧ x0 ≤ c ∧ x1 < 0) ∨ (0 ≤ x0 ∧ x0 ≤ c ∧ 0 ≤ x1 ∧ (b : Int) ≤ x1) := by omega
            clear hin hN hok hal hB1
            rcases hbad with h1 | ⟨h1, h2⟩ | ⟨h1, h2, h3⟩ | ⟨h1, h2, h3, h4⟩
            · go_wp2_with fail
              go_ret2
              exact HX.out
            · have e1 : decide (x0 < 0) = false := by simp; omega
              go_wp2_with fail
              go_ret2
              exact HX.out
            · have e1 : decide (x0 < 0) = false := by simp; omega
              have e2 : decide ((c : Int) < x0) = false := by simp; omega
              go_wp2_with fail
              go_ret2
              exact HX.out
            · have e1 : decide (x0 < 0) = false := by simp; omega
              have e2 : decide ((c : Int) < x0) = false := by simp; omega
              have e3 : decide (x1 < 0) = false := by simp; omega
              go_wp2_with fail
              go_ret2
              exact HX.out
        · obtain rfl : k = bads.length := by omega
          rw [List.take_length] at hok hN
          have hfin : NewEnds c b p s bads xs w (.returned (.tuple #[ptrV L.p, .int .i64 0])) wr := by
            refine ⟨fun _ => ⟨L, rfl, hN, fun x hx => Nat.le_trans hwB (hLB x hx), hbel⟩, fun h => absurd ⟨HG.out, hxl, hok⟩ h⟩
          have HX := Lib.hid hfin
          clear hfin hN hok
          go_wp2_with fail
          go_ret2
          exact HX.out
end Go.Proofs.Ytphnjiokihbhnaa
