/- the reference's chips while they are made. -/
--only r2
import Derived.Test.YtphnjiokihbhnaaGrowNB
import Derived.Test.YtphnjiokihbhnaaNandNew
namespace Go.Proofs.Ytphnjiokihbhnaa
set_option linter.unusedVariables false
set_option linter.unusedSimpArgs false
open Go.RowKit

/-- a row of new blocks -/
def rblk (pk : Nat → Nat) (p o : Nat) : Value :=
  if o % 4 = 0 then .slice (some ⟨pk (o / 4), 0, none⟩) p p else if o % 4 = 1 then .int .i64 0 else if o % 4 = 2 then .int .i64 0 else .bool false
abbrev rchips (cb bc : Nat → Nat) (b k : Nat) : List Value := (List.range k).map fun i => .slice (some ⟨cb i, 0, none⟩) b (bc i)
theorem rchips_succ (cb bc : Nat → Nat) (b k g cap : Nat) : rchips (upd1 cb k g) (upd1 bc k cap) b (k + 1) = rchips cb bc b k ++ [.slice (some ⟨g, 0, none⟩) b cap] := by
  unfold rchips
  rw [List.range_succ, List.map_append]
  congr 1
  · apply List.map_congr_left
    intro i hi
    have := List.mem_range.mp hi
    rw [upd1_other (by omega), upd1_other (by omega)]
  · simp [upd1]
structure RInv (c b p s pb : Nat) (ea : Option Addr) (ec : Nat) (xs : List Ev) (w : World) (E : Nat → Prop) (k : Nat) (cb bc : Nat → Nat) (pj : Nat → Nat → Nat) (tag : Nat → Tag) (cv dv : Value) (wr : World) : Prop where
  bel : Below w.heap.size w wr
  pbw : w.heap.size ≤ pb
  top : wr.heap[pb]? = some (.cells #[.int .i64 c, .int .i64 b, .int .i64 p, .int .i64 s, cv, dv, .slice ea xs.length ec, .int .i64 0, .bool false] 61 (0, 0))
  row : wr.ownsRow w.heap.size 67 1 cv k (rchips cb bc b k)
  rowt : ∀ g, cv.ownBlock = some g → tag g = .chips
  drow : wr.ownsRow w.heap.size 4 1 dv k (List.replicate k (.bool false))
  dnb : RowNB wr dv
  dt : ∀ g, dv.ownBlock = some g → tag g = .dead
  blk : ∀ i, i < k → Row wr (cb i) (b * 4) (rblk (pj i) p)
  bcs : ∀ i, i < k → b ≤ bc i ∧ bc i ≤ maxLen
  pgs : ∀ i j, i < k → j < b → Row wr (pj i j) p fun _ => nilV
  te : ∀ x, E x → tag x = .evs
  tp : tag pb = .top
  tb : ∀ i, i < k → tag (cb i) = .chip i
  tg : ∀ i j, i < k → j < b → tag (pj i j) = .pages i j
  only : ∀ x, (tag x).mut = true → x = pb ∨ dv.ownBlock = some x ∨ (∃ i, i < k ∧ x = cb i) ∨ ∃ i j, i < k ∧ j < b ∧ x = pj i j
  lt : ∀ x, tag x ≠ .none → x < wr.heap.size ∧ (tag x ≠ .evs → w.heap.size ≤ x)
/-- what turns in a step -/
def RTurn (pb : Nat) (cv dv : Value) (x : Nat) : Prop := cv.ownBlock = some x ∨ dv.ownBlock = some x ∨ x = pb
theorem RInv.step {c b p s pb : Nat} {ea : Option Addr} {ec : Nat} {xs : List Ev} {w : World} {E : Nat → Prop} {k : Nat} {cb bc : Nat → Nat} {pj : Nat → Nat → Nat} {tag : Nat → Tag} {cv dv cv' dv' : Value} {wo w3 wf : World} {g cap : Nat} {pk : Nat → Nat} {t : Nat → Option Nat}
    (h : RInv c b p s pb ea ec xs w E k cb bc pj tag cv dv wo) (hb3 : Below wo.heap.size wo w3) (hrow : Row w3 g (b * 4) (rblk pk p)) (hgq : wo.heap.size ≤ g) (hcap : b ≤ cap ∧ cap ≤ maxLen) (hpg : ∀ j, j < b → Row w3 (pk j) p fun _ => nilV)
    (ht : ∀ j, j < b → t (pk j) = some j) (htg : t g = none) (htq : ∀ x, t x ≠ none → (∃ j, j < b ∧ x = pk j ∧ t x = some j) ∧ wo.heap.size ≤ x ∧ x < w3.heap.size)
    (hO : Only (RTurn pb cv dv) w3 wf) (htop : wf.heap[pb]? = some (.cells #[.int .i64 c, .int .i64 b, .int .i64 p, .int .i64 s, cv', dv', .slice ea xs.length ec, .int .i64 0, .bool false] 61 (0, 0)))
    (hcv : wf.ownsRow w.heap.size 67 1 cv' (k + 1) (rchips cb bc b k ++ [.slice (some ⟨g, 0, none⟩) b cap])) (hdv : wf.ownsRow w.heap.size 4 1 dv' (k + 1) (List.replicate (k + 1) (.bool false))) (hdn : RowNB wf dv')
    (hnc : ∀ x, cv'.ownBlock = some x → cv.ownBlock = some x ∨ w3.heap.size ≤ x) (hnd : ∀ x, dv'.ownBlock = some x → dv.ownBlock = some x ∨ (w3.heap.size ≤ x ∧ cv'.ownBlock ≠ some x)) :
    ∃ tag', RInv c b p s pb ea ec xs w E (k + 1) (upd1 cb k g) (upd1 bc k cap) (upd1 pj k pk) tag' cv' dv' wf := by
  obtain ⟨q, hq⟩ : ∃ q, q = wo.heap.size := ⟨_, rfl⟩
  rw [← hq] at hb3 hgq htq
  have hs3 := hb3.size
  have hg3 := hrow.lt
  have hqt : ∀ x, tag x ≠ .none → x < q := fun x hx => by rw [hq]; exact (h.lt x hx).1
  have hcq : ∀ x, cv.ownBlock = some x → x < q := fun x hx => hqt x (by rw [h.rowt x hx]; simp)
  have hdq : ∀ x, dv.ownBlock = some x → x < q := fun x hx => hqt x (by rw [h.dt x hx]; simp)
  have hpq := hqt pb (by rw [h.tp]; simp)
  have hTq : ∀ x, RTurn pb cv dv x → x < q := fun x hx => by
    rcases hx with hx | hx | rfl
    · exact hcq x hx
    · exact hdq x hx
    · exact hpq
  have hnT : ∀ x s, tag x = s → s ≠ .chips → s ≠ .dead → s ≠ .top → ¬ RTurn pb cv dv x := fun x s e h1 h2 h3 hx => by
    rcases hx with hx | hx | rfl
    · exact h1 (e.symm.trans (h.rowt x hx))
    · exact h2 (e.symm.trans (h.dt x hx))
    · exact h3 (e.symm.trans h.tp)
  have hOo : Only (RTurn pb cv dv) wo wf := (Only.new (by rw [← hq]; exact hb3) _).trans hO fun _ _ h => h
  have hnew : ∀ x, q ≤ x → ¬ RTurn pb cv dv x := fun x hx hh => by have := hTq x hh; omega
  have htn : ∀ x, x < q → t x = none := fun x hx => by
    by_cases e : t x = none
    · exact e
    · have := (htq x e).2.1; omega
  have hgn : ∀ x, x < q → x ≠ g := fun x hx => by omega
  refine ⟨fun x => if x = g then .chip k else match t x with | some j => .pages k j | none => if cv'.ownBlock = some x then .chips else if dv'.ownBlock = some x then .dead else if dv.ownBlock = some x then .none else tag x, ?_⟩
  generalize hT : (fun x => if x = g then Tag.chip k else match t x with | some j => .pages k j | none => if cv'.ownBlock = some x then .chips else if dv'.ownBlock = some x then .dead else if dv.ownBlock = some x then .none else tag x) = tag'
  have hTx : ∀ x, tag' x = if x = g then Tag.chip k else match t x with | some j => .pages k j | none => if cv'.ownBlock = some x then .chips else if dv'.ownBlock = some x then .dead else if dv.ownBlock = some x then .none else tag x := fun x => by rw [← hT]
  clear hT
  -- tags of old blocks that stay
  have hold : ∀ x s, tag x = s → s ≠ .none → s ≠ .chips → s ≠ .dead → tag' x = s := fun x s e h0 h1 h2 => by
    have hx := hqt x (by rw [e]; exact h0)
    rw [hTx, if_neg (hgn x hx), htn x hx]
    simp only
    rw [if_neg, if_neg, if_neg, e]
    · intro hh; exact h2 (e.symm.trans (h.dt x hh))
    · intro hh
      rcases hnd x hh with h3 | h3
      · exact h2 (e.symm.trans (h.dt x h3))
      · omega
    · intro hh
      rcases hnc x hh with h3 | h3
      · exact h1 (e.symm.trans (h.rowt x h3))
      · omega
  have hw3 : w.heap.size ≤ w3.heap.size := Nat.le_trans h.bel.size hs3
  have hwq : w.heap.size ≤ q := by rw [hq]; exact h.bel.size
  have hcx : ∀ x, cv'.ownBlock = some x → x ≠ g ∧ t x = none := fun x hx => by
    rcases hnc x hx with h3 | h3
    · exact ⟨hgn x (hcq x h3), htn x (hcq x h3)⟩
    · refine ⟨by omega, ?_⟩
      by_cases e : t x = none
      · exact e
      · have := (htq x e).2.2; omega
  have hdx : ∀ x, dv'.ownBlock = some x → x ≠ g ∧ t x = none ∧ cv'.ownBlock ≠ some x := fun x hx => by
    rcases hnd x hx with h3 | ⟨h3, h4⟩
    · refine ⟨hgn x (hdq x h3), htn x (hdq x h3), fun hh => ?_⟩
      rcases hnc x hh with h5 | h5
      · have := h.rowt x h5; rw [h.dt x h3] at this; cases this
      · have := hdq x h3; omega
    · refine ⟨by omega, ?_, h4⟩
      by_cases e : t x = none
      · exact e
      · have := (htq x e).2.2; omega
  refine ⟨h.bel.trans (hOo.below h.bel.size fun x hx hh => ?_), h.pbw, htop, by rw [rchips_succ]; exact hcv, fun x hx => ?_, hdv, hdn, fun x hx => ?_, fun i hi => ?_, fun i hi => ?_, fun i j hi hj => ?_, fun x hx => hold x _ (h.te x hx) (by simp) (by simp) (by simp), hold _ _ h.tp (by simp) (by simp) (by simp), fun i hi => ?_, fun i j hi hj => ?_, fun x hx => ?_, fun x hx => ?_⟩
  · rcases hh with hh | hh | rfl
    · have := (h.row.lt x hh).1; omega
    · have := (h.drow.lt x hh).1; omega
    · have := h.pbw; omega
  · obtain ⟨h1, h2⟩ := hcx x hx
    rw [hTx, if_neg h1, h2]; simp only; rw [if_pos hx]
  · obtain ⟨h1, h2, h3⟩ := hdx x hx
    rw [hTx, if_neg h1, h2]; simp only; rw [if_neg h3, if_pos hx]
  · by_cases e : i = k
    · subst e; rw [upd1_same, upd1_same]; exact hrow.only hO (hnew g hgq)
    · rw [upd1_other e, upd1_other e]; exact (h.blk i (by omega)).only hOo (hnT _ _ (h.tb i (by omega)) (by simp) (by simp) (by simp))
  · by_cases e : i = k
    · subst e; rw [upd1_same]; exact hcap
    · rw [upd1_other e]; exact h.bcs i (by omega)
  · by_cases e : i = k
    · subst e; rw [upd1_same]; exact (hpg j hj).only hO (hnew _ (htq _ (by rw [ht j hj]; simp)).2.1)
    · rw [upd1_other e]; exact (h.pgs i j (by omega) hj).only hOo (hnT _ _ (h.tg i j (by omega) hj) (by simp) (by simp) (by simp))
  · by_cases e : i = k
    · subst e; rw [upd1_same, hTx, if_pos rfl]
    · rw [upd1_other e]; exact hold _ _ (h.tb i (by omega)) (by simp) (by simp) (by simp)
  · by_cases e : i = k
    · subst e
      have hne : pk j ≠ g := fun e => by have := ht j hj; rw [e, htg] at this; cases this
      rw [upd1_same, hTx, if_neg hne, ht j hj]
    · rw [upd1_other e]; exact hold _ _ (h.tg i j (by omega) hj) (by simp) (by simp) (by simp)
  · rw [hTx] at hx
    by_cases e1 : x = g
    · exact .inr (.inr (.inl ⟨k, by omega, by rw [upd1_same]; exact e1⟩))
    · rw [if_neg e1] at hx
      by_cases e2 : t x = none
      · rw [e2] at hx
        simp only at hx
        by_cases e3 : cv'.ownBlock = some x
        · rw [if_pos e3] at hx; simp [Tag.mut] at hx
        · rw [if_neg e3] at hx
          by_cases e4 : dv'.ownBlock = some x
          · exact .inr (.inl e4)
          · rw [if_neg e4] at hx
            by_cases e5 : dv.ownBlock = some x
            · rw [if_pos e5] at hx; simp [Tag.mut] at hx
            · rw [if_neg e5] at hx
              rcases h.only x hx with h1 | h1 | ⟨i, hi, h1⟩ | ⟨i, j, hi, hj, h1⟩
              · exact .inl h1
              · exact absurd h1 e5
              · exact .inr (.inr (.inl ⟨i, by omega, by rw [upd1_other (by omega)]; exact h1⟩))
              · exact .inr (.inr (.inr ⟨i, j, by omega, hj, by rw [upd1_other (by omega)]; exact h1⟩))
      · obtain ⟨⟨j, hj, h1, h2⟩, -⟩ := htq x e2
        exact .inr (.inr (.inr ⟨k, j, by omega, hj, by rw [upd1_same]; exact h1⟩))
  · have hsf := hO.size
    rw [hTx] at hx ⊢
    by_cases e1 : x = g
    · subst e1; exact ⟨by omega, fun _ => by omega⟩
    · rw [if_neg e1] at hx ⊢
      by_cases e2 : t x = none
      · rw [e2] at hx ⊢
        simp only at hx ⊢
        by_cases e3 : cv'.ownBlock = some x
        · have := hcv.lt x e3; exact ⟨this.2, fun _ => this.1⟩
        · rw [if_neg e3] at hx ⊢
          by_cases e4 : dv'.ownBlock = some x
          · have := hdv.lt x e4; exact ⟨this.2, fun _ => this.1⟩
          · rw [if_neg e4] at hx ⊢
            by_cases e5 : dv.ownBlock = some x
            · rw [if_pos e5] at hx; exact absurd rfl hx
            · rw [if_neg e5] at hx ⊢
              have := h.lt x hx
              exact ⟨by have := this.1; omega, this.2⟩
      · have := (htq x e2).2
        exact ⟨by omega, fun _ => by omega⟩
theorem RInv.made {c b p s pb : Nat} {ea : Option Addr} {ec : Nat} {xs : List Ev} {w : World} {cb bc : Nat → Nat} {pj : Nat → Nat → Nat} {tag : Nat → Tag} {cv dv : Value} {wr : World}
    (h : RInv c b p s pb ea ec xs w (fun x => xs ≠ [] ∧ ea.map (·.block) = some x) (c + 1) cb bc pj tag cv dv wr) (hev : REv w ea ec xs (fun _ => True)) (hg : geoOk c b p s) (hxl : xs.length ≤ 200) (hxo : evsOk xs) :
    ∃ L : NdLay, L.p = pb ∧ L.ea = ea ∧ NdAt false wr L (Nd.fresh c b p s (fun _ _ => false) xs) ∧ ∀ x, L.tag x ≠ .none → L.tag x ≠ .evs → w.heap.size ≤ x := by
  obtain ⟨g1, g2, g3, g4, g5, g6, g7, g8, g9⟩ := hg
  rcases h.row.2 with ⟨_, h0⟩ | ⟨g, cap, cur, rfl, hgb, hgg, hnc, hcm, hcs, htk⟩
  · omega
  rcases h.drow.2 with ⟨_, h0⟩ | ⟨d, dcap, dcur, rfl, hdb, hdd, hdc, hdm, hds, hdt⟩
  · omega
  refine ⟨⟨pb, g, cap, d, dcap, cb, bc, pj, fun _ _ => p, fun _ _ _ => nilV, ea, ec, tag⟩, rfl, rfl, ?_, fun x hx hy => (h.lt x hx).2 hy⟩
  refine ⟨?_, ?_, fun o ho => ?_, ?_, fun i hi => ?_, fun i j hi hj => ?_, fun i j k hi hj hk => RB.nil _, ?_, ⟨⟨hnc, hcm⟩, ⟨hdc, hdm⟩, fun i hi => h.bcs i (Nat.lt_succ_of_le hi), fun _ _ _ _ => ⟨Nat.le_refl _, by show p ≤ maxLen; unfold maxLen; omega⟩⟩, h.tp, h.dt d rfl, h.rowt g rfl, fun i hi => h.tb i (Nat.lt_succ_of_le hi), fun i j hi hj => h.tg i j (Nat.lt_succ_of_le hi) hj, fun x hx => ?_, fun x hx => (h.lt x hx).1⟩
  · exact ⟨⟨by show 1 ≤ c; omega, by show c ≤ 16; omega⟩, ⟨by show 1 ≤ b; omega, by show b ≤ 64; omega⟩, ⟨by show 1 ≤ p; omega, by show p ≤ 32; omega⟩, ⟨by show 1 ≤ s; omega, by show s ≤ 1024; omega⟩, fun _ _ _ => .inl rfl, fun _ _ => Nat.zero_le _, fun _ _ => Nat.zero_le _, hxo, by show xs.length ≤ 1000; omega, by show 0 ≤ 1000000; omega⟩
  · exact h.top
  · have := h.row.cells (g := g) rfl o (.slice (some ⟨cb o, 0, none⟩) b (bc o)) (by
      show (rchips cb bc b (c + 1))[o]? = _
      unfold rchips
      rw [List.getElem?_map, List.getElem?_range (show o < c + 1 from ho)]; rfl)
    rwa [add_plain, Nat.zero_add] at this
  · refine ⟨dcur, _, hdd, fun o ho => ?_, fun o u hu => ?_⟩
    · have ho : o < c + 1 := ho
      have h2 : (dcur.toList.take ((c + 1) * 1))[o]? = some (.bool false) := by
        rw [hdt, List.getElem?_replicate, if_pos ho]
      rw [List.getElem?_take, if_pos (by omega)] at h2
      have h3 : dcur[o]? = some (.bool false) := by simpa using h2
      exact h3
    · have hm : u8v u ∈ dcur.toList := by
        have := Array.mem_of_getElem? hu
        exact Array.mem_toList_iff.mpr this
      exact h.dnb d dcur _ _ rfl hdd _ hm u rfl
  · refine (h.blk i (Nat.lt_succ_of_le hi)).congr fun o ho => ?_
    unfold rblk blkCells
    have : o % 4 = 0 ∨ o % 4 = 1 ∨ o % 4 = 2 ∨ o % 4 = 3 := by omega
    rcases this with e | e | e | e <;> simp [e, Nd.fresh]
  · have := h.pgs i j (Nat.lt_succ_of_le hi) hj
    show Row wr (pj i j) (p * 1) _
    rw [Nat.mul_one]; exact this
  · have h1 := hev.below h.bel
    obtain ⟨h2, h3, h0, h4⟩ := h1
    refine ⟨h2, h3, h0, ?_⟩
    by_cases he : xs = []
    · exact .inl he
    · refine .inr ((h4.resolve_left he).imp fun b' h5 => h5.imp fun o h6 => ⟨h6.1, h.te _ ⟨he, by rw [h6.1]; rfl⟩, h6.2.2⟩)
  · rcases h.only x hx with h1 | h1 | ⟨i, hi, h1⟩ | ⟨i, j, hi, hj, h1⟩
    · exact .inl h1
    · exact .inr (.inl (by simpa [Value.ownBlock] using h1.symm))
    · exact .inr (.inr (.inl ⟨i, Nat.le_of_lt_succ hi, h1⟩))
    · exact .inr (.inr (.inr ⟨i, j, Nat.le_of_lt_succ hi, hj, h1⟩))
end Go.Proofs.Ytphnjiokihbhnaa
