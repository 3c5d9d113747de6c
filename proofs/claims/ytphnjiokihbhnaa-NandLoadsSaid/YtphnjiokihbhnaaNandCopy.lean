/- nand: a copy. -/
--only r2
import Derived.Test.YtphnjiokihbhnaaRefMake
/- nand: chips that are being copied. -/
namespace Go.Proofs.Ytphnjiokihbhnaa
set_option linter.unusedVariables false
set_option linter.unusedSimpArgs false
open Go.RowKit

/-- an own row, as a row -/
theorem own_row {w : World} {base e size n : Nat} {v : Value} {f : Nat → Value} (h : w.ownsRow base e size v n ((List.range (n * size)).map f)) (hnb : RowNB w v) (hn : 0 < n) :
    ∃ g cap, v = .slice (some ⟨g, 0, none⟩) n cap ∧ base ≤ g ∧ (n ≤ cap ∧ cap ≤ maxLen) ∧ Row w g (n * size) f := by
  rcases h.2 with ⟨_, h0⟩ | ⟨g, cap, cur, rfl, hgb, hgg, hnc, hcm, hcs, htk⟩
  · omega
  refine ⟨g, cap, rfl, hgb, ⟨hnc, hcm⟩, cur, _, hgg, fun o ho => ?_, fun o u hu => ?_⟩
  · have h2 : (cur.toList.take (n * size))[o]? = some (f o) := by
      rw [htk, List.getElem?_map, List.getElem?_range ho]; rfl
    rw [List.getElem?_take, if_pos ho] at h2
    simpa using h2
  · exact hnb g cur _ _ rfl hgg _ (Array.mem_toList_iff.mpr (Array.mem_of_getElem? hu)) u rfl

/-- a chip's row of blocks, of which the first j are copied -/
def cpCell (M : Nd) (pk pq : Nat → Nat) (c j o : Nat) : Value :=
  if o / 4 < j then
    (if o % 4 = 0 then .slice (some ⟨pk (o / 4), 0, none⟩) M.pgs (pq (o / 4)) else if o % 4 = 1 then .int .i64 (M.next c (o / 4)) else if o % 4 = 2 then .int .i64 (M.erases c (o / 4)) else .bool (M.bad c (o / 4)))
  else if o % 4 = 0 then nilV else if o % 4 = 1 then .int .i64 0 else if o % 4 = 2 then .int .i64 0 else .bool false
/-- a chip that is being copied -/
structure CpIn (M : Nd) (pv : Nat → Nat → Value) (c q : Nat) (wo : World) (j : Nat) (pk pq : Nat → Nat) (t : Nat → Option Nat) (wi : World) : Prop where
  bel : Below q wo wi
  row : Row wi q (M.blk * 4) (cpCell M pk pq c j)
  cap : ∀ i, i < j → M.pgs ≤ pq i ∧ pq i ≤ maxLen
  pgs : ∀ i, i < j → Row wi (pk i) (M.pgs * 2) (pv i)
  ht : ∀ i, i < j → t (pk i) = some i
  htq : ∀ x, t x ≠ none → (∃ i, i < j ∧ x = pk i ∧ t x = some i) ∧ q < x ∧ x < wi.heap.size
  ge : q < wi.heap.size
theorem CpIn.step {M : Nd} {pv : Nat → Nat → Value} {c q : Nat} {wo : World} {j : Nat} {pk pq : Nat → Nat} {t : Nat → Option Nat} {wi w2 w3 : World} {g cap : Nat} {f2 : Nat → Value}
    (h : CpIn M pv c q wo j pk pq t wi) (hj : j < M.blk) (hqo : q ≤ wo.heap.size) (hO : Only (fun x => x = q) wi w2) (hrow2 : Row w2 q (M.blk * 4) f2) (hf2 : ∀ o, o / 4 ≠ j → f2 o = cpCell M pk pq c j o)
    (h1 : f2 (j * 4 + 1) = .int .i64 (M.next c j)) (h2 : f2 (j * 4 + 2) = .int .i64 (M.erases c j)) (h3 : f2 (j * 4 + 3) = .bool (M.bad c j))
    (hb3 : Below w2.heap.size w2 w3) (hg : w2.heap.size ≤ g) (hpg : Row w3 g (M.pgs * 2) (pv j)) (hcap : M.pgs ≤ cap ∧ cap ≤ maxLen) :
    CpIn M pv c q wo (j + 1) (upd1 pk j g) (upd1 pq j cap) (fun x => if x = g then some j else t x) (w3.setCell ⟨q, j * 4, none⟩ (.slice (some ⟨g, 0, none⟩) M.pgs cap)) := by
  have hge := h.ge
  have hs2 := hO.size
  have hs3 := hb3.size
  have hlg := hpg.lt
  have hsz : (w3.setCell ⟨q, j * 4, none⟩ (.slice (some ⟨g, 0, none⟩) M.pgs cap)).heap.size = w3.heap.size := size_set _ _ _
  have hO3 : Only (fun x => x = q) wi (w3.setCell ⟨q, j * 4, none⟩ (.slice (some ⟨g, 0, none⟩) M.pgs cap)) :=
    (hO.trans (Only.new hb3 fun x => x = q) fun _ _ h => h).set _ _ fun _ => rfl
  refine ⟨h.bel.trans (hO3.below (by omega) fun x hx hh => by omega), ?_, fun i hi => ?_, fun i hi => ?_, fun i hi => ?_, fun x hx => ?_, by rw [hsz]; omega⟩
  · refine ((hrow2.below hb3).set (o := j * 4) (.slice (some ⟨g, 0, none⟩) M.pgs cap) (by omega) (nb_slice _ _ _)).congr fun o ho => ?_
    by_cases e : o = j * 4
    · subst e
      rw [if_pos rfl]
      unfold cpCell
      rw [if_pos (by omega), if_pos (by omega), show j * 4 / 4 = j by omega, upd1_same, upd1_same]
    · rw [if_neg e]
      by_cases e4 : o / 4 = j
      · have : o = j * 4 + 1 ∨ o = j * 4 + 2 ∨ o = j * 4 + 3 := by omega
        rcases this with rfl | rfl | rfl
        · rw [h1]; unfold cpCell
          rw [if_pos (by omega), if_neg (by omega), if_pos (by omega), show (j * 4 + 1) / 4 = j by omega]
        · rw [h2]; unfold cpCell
          rw [if_pos (by omega), if_neg (by omega), if_neg (by omega), if_pos (by omega), show (j * 4 + 2) / 4 = j by omega]
        · rw [h3]; unfold cpCell
          rw [if_pos (by omega), if_neg (by omega), if_neg (by omega), if_neg (by omega), show (j * 4 + 3) / 4 = j by omega]
      · rw [hf2 o e4]
        unfold cpCell
        rw [upd1_other e4, upd1_other e4]
        by_cases e5 : o / 4 < j
        · rw [if_pos e5, if_pos (show o / 4 < j + 1 by omega)]
        · rw [if_neg e5, if_neg (show ¬ o / 4 < j + 1 by omega)]
  · by_cases e : i = j
    · subst e; rw [upd1_same]; exact hcap
    · rw [upd1_other e]; exact h.cap i (by omega)
  · by_cases e : i = j
    · subst e; rw [upd1_same]; exact hpg.other _ _ (by show g ≠ q; omega)
    · rw [upd1_other e]
      refine (h.pgs i (by omega)).only hO3 fun hh => ?_
      have := (h.htq (pk i) (by rw [h.ht i (by omega)]; simp)).2.1
      omega
  · by_cases e : i = j
    · subst e; rw [upd1_same]; exact if_pos rfl
    · rw [upd1_other e]
      have h1 := h.ht i (by omega)
      have h2 := (h.htq (pk i) (by rw [h1]; simp)).2.2
      show (if pk i = g then some j else t (pk i)) = some i
      rw [if_neg (by omega)]; exact h1
  · rw [hsz]
    by_cases e : x = g
    · rw [if_pos e]; exact ⟨⟨j, by omega, by rw [upd1_same]; exact e, rfl⟩, by omega, by omega⟩
    · rw [if_neg e] at hx ⊢
      obtain ⟨⟨i, hi, h1, h2⟩, h3, h4⟩ := h.htq x hx
      exact ⟨⟨i, by omega, by rw [upd1_other (by omega)]; exact h1, h2⟩, h3, by omega⟩

def cpTop (M : Nd) (db dk : Nat) (cv : Value) : Array Value :=
  #[.int .i64 M.mem, .int .i64 M.blk, .int .i64 M.pgs, .int .i64 M.siz, cv, .slice (some ⟨db, 0, none⟩) (M.mem + 1) dk, .slice none 0 0, .int .i64 0, .bool M.off]
/-- chips that are being copied: k of them are there -/
structure CpInv (M : Nd) (pv : Nat → Nat → Nat → Value) (pb db dk : Nat) (w : World) (k : Nat) (cb : Nat → Nat) (pj pq : Nat → Nat → Nat) (tag : Nat → Tag) (cv : Value) (wr : World) : Prop where
  bel : Below w.heap.size w wr
  top : wr.heap[pb]? = some (.cells (cpTop M db dk cv) 85 (0, 0))
  row : wr.ownsRow w.heap.size 86 1 cv k (cvRow cb M.blk k)
  rowt : ∀ g, cv.ownBlock = some g → tag g = .chips
  dead : Row wr db (M.mem + 1) fun c => .bool (M.gone c)
  blk : ∀ i, i < k → Row wr (cb i) (M.blk * 4) (cpCell M (pj i) (pq i) i M.blk)
  caps : ∀ i j, i < k → j < M.blk → M.pgs ≤ pq i j ∧ pq i j ≤ maxLen
  pgs : ∀ i j, i < k → j < M.blk → Row wr (pj i j) (M.pgs * 2) (pv i j)
  tp : tag pb = .top
  td : tag db = .dead
  tb : ∀ i, i < k → tag (cb i) = .chip i
  tg : ∀ i j, i < k → j < M.blk → tag (pj i j) = .pages i j
  only : ∀ x, (tag x).mut = true → x = pb ∨ x = db ∨ (∃ i, i < k ∧ x = cb i) ∨ ∃ i j, i < k ∧ j < M.blk ∧ x = pj i j
  lt : ∀ x, tag x ≠ .none → w.heap.size ≤ x ∧ x < wr.heap.size
def CpTurn (pb : Nat) (cv : Value) (x : Nat) : Prop := cv.ownBlock = some x ∨ x = pb
theorem CpInv.step {M : Nd} {pv : Nat → Nat → Nat → Value} {pb db dk : Nat} {w : World} {k : Nat} {cb : Nat → Nat} {pj pq : Nat → Nat → Nat} {tag : Nat → Tag} {cv cv' : Value} {wo w3 wf : World} {q : Nat} {pk pqk : Nat → Nat} {t : Nat → Option Nat}
    (h : CpInv M pv pb db dk w k cb pj pq tag cv wo) (hJ : CpIn M (pv k) k q wo M.blk pk pqk t w3) (hq : q = wo.heap.size)
    (hO : Only (CpTurn pb cv) w3 wf) (htop : wf.heap[pb]? = some (.cells (cpTop M db dk cv') 85 (0, 0)))
    (hcv : wf.ownsRow w.heap.size 86 1 cv' (k + 1) (cvRow cb M.blk k ++ [.slice (some ⟨q, 0, none⟩) M.blk M.blk]))
    (hnc : ∀ x, cv'.ownBlock = some x → cv.ownBlock = some x ∨ w3.heap.size ≤ x) :
    ∃ tag', CpInv M pv pb db dk w (k + 1) (upd1 cb k q) (upd1 pj k pk) (upd1 pq k pqk) tag' cv' wf := by
  have hge := h.bel.size
  have hqs := hJ.ge
  have hqt : ∀ x, tag x ≠ .none → x < q := fun x hx => by rw [hq]; exact (h.lt x hx).2
  have hcq : ∀ x, cv.ownBlock = some x → x < q := fun x hx => hqt x (by rw [h.rowt x hx]; simp)
  have hpq := hqt pb (by rw [h.tp]; simp)
  have hTq : ∀ x, CpTurn pb cv x → x < q := fun x hx => by
    rcases hx with hx | rfl
    · exact hcq x hx
    · exact hpq
  have hnT : ∀ x s, tag x = s → s ≠ .chips → s ≠ .top → ¬ CpTurn pb cv x := fun x s e h1 h3 hx => by
    rcases hx with hx | rfl
    · exact h1 (e.symm.trans (h.rowt x hx))
    · exact h3 (e.symm.trans h.tp)
  have hOo : Only (CpTurn pb cv) wo wf := (Only.new (by rw [← hq]; exact hJ.bel) _).trans hO fun _ _ h => h
  have hnew : ∀ x, q ≤ x → ¬ CpTurn pb cv x := fun x hx hh => by have := hTq x hh; omega
  have htn : ∀ x, x ≤ q → t x = none := fun x hx => by
    by_cases e : t x = none
    · exact e
    · have := (hJ.htq x e).2.1; omega
  have hcx : ∀ x, cv'.ownBlock = some x → x ≠ q ∧ t x = none := fun x hx => by
    rcases hnc x hx with h3 | h3
    · have := hcq x h3; exact ⟨by omega, htn x (by omega)⟩
    · refine ⟨by omega, ?_⟩
      by_cases e : t x = none
      · exact e
      · have := (hJ.htq x e).2.2; omega
  refine ⟨fun x => if x = q then .chip k else match t x with | some j => .pages k j | none => if cv'.ownBlock = some x then .chips else tag x, ?_⟩
  generalize hT : (fun x => if x = q then Tag.chip k else match t x with | some j => .pages k j | none => if cv'.ownBlock = some x then .chips else tag x) = tag'
  have hTx : ∀ x, tag' x = if x = q then Tag.chip k else match t x with | some j => .pages k j | none => if cv'.ownBlock = some x then .chips else tag x := fun x => by rw [← hT]
  clear hT
  have hold : ∀ x s, tag x = s → s ≠ .none → s ≠ .chips → tag' x = s := fun x s e h0 h1 => by
    have hx := hqt x (by rw [e]; exact h0)
    rw [hTx, if_neg (by omega), htn x (by omega)]
    simp only
    rw [if_neg, e]
    intro hh
    rcases hnc x hh with h3 | h3
    · exact h1 (e.symm.trans (h.rowt x h3))
    · omega
  refine ⟨h.bel.trans (hOo.below h.bel.size fun x hx hh => ?_), htop, by rw [cvRow_succ]; exact hcv, fun x hx => ?_, h.dead.only hOo (hnT _ _ h.td (by simp) (by simp)), fun i hi => ?_, fun i j hi hj => ?_, fun i j hi hj => ?_, hold _ _ h.tp (by simp) (by simp), hold _ _ h.td (by simp) (by simp), fun i hi => ?_, fun i j hi hj => ?_, fun x hx => ?_, fun x hx => ?_⟩
  · rcases hh with hh | rfl
    · have := (h.row.lt x hh).1; omega
    · have := (h.lt x (by rw [h.tp]; simp)).1; omega
  · obtain ⟨h1, h2⟩ := hcx x hx
    rw [hTx, if_neg h1, h2]; simp only; rw [if_pos hx]
  · by_cases e : i = k
    · subst e; rw [upd1_same, upd1_same, upd1_same]; exact hJ.row.only hO (hnew q (Nat.le_refl _))
    · rw [upd1_other e, upd1_other e, upd1_other e]; exact (h.blk i (by omega)).only hOo (hnT _ _ (h.tb i (by omega)) (by simp) (by simp))
  · by_cases e : i = k
    · subst e; rw [upd1_same]; exact hJ.cap j hj
    · rw [upd1_other e]; exact h.caps i j (by omega) hj
  · by_cases e : i = k
    · subst e; rw [upd1_same]; exact (hJ.pgs j hj).only hO (hnew _ (by have := (hJ.htq (pk j) (by rw [hJ.ht j hj]; simp)).2.1; omega))
    · rw [upd1_other e]; exact (h.pgs i j (by omega) hj).only hOo (hnT _ _ (h.tg i j (by omega) hj) (by simp) (by simp))
  · by_cases e : i = k
    · subst e; rw [upd1_same, hTx, if_pos rfl]
    · rw [upd1_other e]; exact hold _ _ (h.tb i (by omega)) (by simp) (by simp)
  · by_cases e : i = k
    · subst e
      have h1 := hJ.ht j hj
      have hne : pk j ≠ q := by have := (hJ.htq (pk j) (by rw [h1]; simp)).2.1; omega
      rw [upd1_same, hTx, if_neg hne, h1]
    · rw [upd1_other e]; exact hold _ _ (h.tg i j (by omega) hj) (by simp) (by simp)
  · rw [hTx] at hx
    by_cases e1 : x = q
    · exact .inr (.inr (.inl ⟨k, by omega, by rw [upd1_same]; exact e1⟩))
    · rw [if_neg e1] at hx
      by_cases e2 : t x = none
      · rw [e2] at hx
        simp only at hx
        by_cases e3 : cv'.ownBlock = some x
        · rw [if_pos e3] at hx; simp [Tag.mut] at hx
        · rw [if_neg e3] at hx
          rcases h.only x hx with h1 | h1 | ⟨i, hi, h1⟩ | ⟨i, j, hi, hj, h1⟩
          · exact .inl h1
          · exact .inr (.inl h1)
          · exact .inr (.inr (.inl ⟨i, by omega, by rw [upd1_other (by omega)]; exact h1⟩))
          · exact .inr (.inr (.inr ⟨i, j, by omega, hj, by rw [upd1_other (by omega)]; exact h1⟩))
      · obtain ⟨⟨j, hj, h1, h2⟩, -⟩ := hJ.htq x e2
        exact .inr (.inr (.inr ⟨k, j, by omega, hj, by rw [upd1_same]; exact h1⟩))
  · have hsf := hO.size
    rw [hTx] at hx
    by_cases e1 : x = q
    · subst e1; exact ⟨by omega, by omega⟩
    · rw [if_neg e1] at hx
      by_cases e2 : t x = none
      · rw [e2] at hx
        simp only at hx
        by_cases e3 : cv'.ownBlock = some x
        · exact hcv.lt x e3
        · rw [if_neg e3] at hx
          have := h.lt x hx
          exact ⟨this.1, by have := this.2; omega⟩
      · have := (hJ.htq x e2).2
        exact ⟨by omega, by omega⟩

def Nd.copy (M : Nd) : Nd := { M with evs := [], ops := 0 }
def CopyEnds (M : Nd) (w : World) (e : Ending) (w' : World) : Prop :=
  ∃ L : NdLay, e = .returned (ptrV L.p) ∧ NdAt true w' L M.copy ∧ (∀ x, L.tag x ≠ .none → w.heap.size ≤ x) ∧ Below w.heap.size w w'
theorem CpInv.made {M : Nd} {L : NdLay} {pb db dk : Nat} {w : World} {cb : Nat → Nat} {pj pq : Nat → Nat → Nat} {tag : Nat → Tag} {cv : Value} {wr : World}
    (h : CpInv M L.pv pb db dk w (M.mem + 1) cb pj pq tag cv wr) (hN : NdAt true w L M) (herr : ∀ c b, M.erases c b ≤ 4294967295) (hdk : M.mem + 1 ≤ dk ∧ dk ≤ maxLen) :
    CopyEnds M w (.returned (ptrV pb)) wr := by
  rcases h.row.2 with ⟨_, h0⟩ | ⟨g, cap, cur, rfl, hgb, hgg, hnc, hcm, hcs, htk⟩
  · omega
  have ok := hN.ok
  have hmx : (64 : Nat) ≤ maxLen := by unfold maxLen; omega
  refine ⟨⟨pb, g, cap, db, dk, cb, fun _ => M.blk, pj, pq, L.pv, none, 0, tag⟩, rfl, ?_, fun x hx => (h.lt x hx).1, h.bel⟩
  refine ⟨⟨ok.mem, ok.blk, ok.pgs, ok.siz, ok.page, ok.next, fun c b => by have := herr c b; show M.erases c b ≤ 4294967295 + 0; omega, (fun x hx => by cases hx), Nat.zero_le _, Nat.zero_le _⟩, h.top, fun o ho => ?_, h.dead, fun i hi => ?_, fun i j hi hj => h.pgs i j (Nat.lt_succ_of_le hi) hj, fun i j p hi hj hp => (hN.pg i j p hi hj hp).only (Only.new h.bel fun _ => False) (fun _ _ => False.elim), ⟨Nat.le_refl _, Nat.zero_le _, fun _ => rfl, .inl rfl⟩, ⟨⟨hnc, hcm⟩, hdk, fun _ _ => ⟨Nat.le_refl _, by have := ok.blk.2; show M.blk ≤ maxLen; omega⟩, fun i j hi hj => h.caps i j (Nat.lt_succ_of_le hi) hj⟩, h.tp, h.td, h.rowt g rfl, fun i hi => h.tb i (Nat.lt_succ_of_le hi), fun i j hi hj => h.tg i j (Nat.lt_succ_of_le hi) hj, fun x hx => ?_, fun x hx => (h.lt x hx).2⟩
  · have := h.row.cells (g := g) rfl o (.slice (some ⟨cb o, 0, none⟩) M.blk M.blk) (by
      show (cvRow cb M.blk (M.mem + 1))[o]? = _
      unfold cvRow
      rw [List.getElem?_map, List.getElem?_range (show o < M.mem + 1 from ho)]; rfl)
    rwa [add_plain, Nat.zero_add] at this
  · refine (h.blk i (Nat.lt_succ_of_le hi)).congr fun o ho => ?_
    have : o / 4 < M.blk := by have : o < M.blk * 4 := ho; omega
    unfold cpCell blkCells
    rw [if_pos this]
    rfl
  · rcases h.only x hx with h1 | h1 | ⟨i, hi, h1⟩ | ⟨i, j, hi, hj, h1⟩
    · exact .inl h1
    · exact .inr (.inl h1)
    · exact .inr (.inr (.inl ⟨i, Nat.le_of_lt_succ hi, h1⟩))
    · exact .inr (.inr (.inr ⟨i, j, Nat.le_of_lt_succ hi, hj, h1⟩))
theorem pv_slice {w : World} {L : NdLay} {M : Nd} (h : NdAt true w L M) {c b o : Nat} (hc : c ≤ M.mem) (hb : b < M.blk) (ho : o < M.pgs * 2) : ∃ a n cp, L.pv c b o = .slice a n cp := by
  have hp := h.pg c b (o / 2) hc hb (by omega)
  have ho2 : o = o / 2 * 2 ∨ o = o / 2 * 2 + 1 := by omega
  rcases hp with ⟨-, h1, h2⟩ | ⟨-, h1, h2⟩
  · rcases ho2 with e | e
    · exact ⟨none, 0, 0, by rw [e]; exact h1⟩
    · exact ⟨none, 0, 0, by rw [e]; exact h2⟩
  · rcases ho2 with e | e
    · obtain ⟨a, cp, e2, -⟩ := h1.form
      exact ⟨a, _, cp, by rw [e]; exact e2⟩
    · obtain ⟨a, cp, e2, -⟩ := h2.form
      exact ⟨a, _, cp, by rw [e]; exact e2⟩
theorem pv_list {w : World} {L : NdLay} {M : Nd} (h : NdAt true w L M) {c b : Nat} (hc : c ≤ M.mem) (hb : b < M.blk) : ∀ u ∈ (List.range (M.pgs * 2)).map (L.pv c b), u.oneCell' = true ∧ NB u := fun u hu => by
  obtain ⟨o, ho, rfl⟩ := List.mem_map.mp hu
  obtain ⟨a, n, cp, e⟩ := pv_slice h hc hb (List.mem_range.mp ho)
  rw [e]; exact ⟨rfl, nb_slice _ _ _⟩
theorem pv_cells {w : World} {L : NdLay} {M : Nd} (h : NdAt true w L M) {c b : Nat} (hc : c ≤ M.mem) (hb : b < M.blk) : ∀ j u, ((List.range (M.pgs * 2)).map (L.pv c b))[j]? = some u → w.cell? ((⟨L.pb c b, 0, none⟩ : Addr).add j) = some u := fun j u hu => by
  obtain ⟨hj, rfl⟩ := List.getElem?_eq_some_iff.mp hu
  simp only [List.length_map, List.length_range] at hj
  rw [add_plain, Nat.zero_add, (h.pgs c b hc hb).cell (o := j) (by simpa [kk] using hj)]; simp
end Go.Proofs.Ytphnjiokihbhnaa
namespace Go.Proofs.Ytphnjiokihbhnaa
set_option linter.unusedVariables false
set_option linter.unusedSimpArgs false
open Go.RowKit

set_option maxRecDepth 100000 in
set_option maxHeartbeats 600000 in
theorem ncopy_calls {w : World} {L : NdLay} {M : Nd} (h : NdAt true w L M) (herr : ∀ c b, M.erases c b ≤ 4294967295) :
    Calls Try.prog 29 #[ptrV L.p, .slice none 0 0] w (CopyEnds M w) := by
  have hT := h.top
  simp only [topCells, if_true] at hT
  have hlL := heap_lt hT
  obtain ⟨hm1, hm2⟩ := h.ok.mem
  obtain ⟨hb1, hb2⟩ := h.ok.blk
  obtain ⟨hp1, hp2⟩ := h.ok.pgs
  obtain ⟨hs1, hs2⟩ := h.ok.siz
  have g0 : ∀ w', Below w.heap.size w w' → w'.cell? ⟨L.p, 0, none⟩ = some (.int .i64 M.mem) := fun w' hb => cells_at (heap_keep hb hT) 0 _ rfl
  have g1 : ∀ w', Below w.heap.size w w' → w'.cell? ⟨L.p, 1, none⟩ = some (.int .i64 M.blk) := fun w' hb => cells_at (heap_keep hb hT) 1 _ rfl
  have g2 : ∀ w', Below w.heap.size w w' → w'.cell? ⟨L.p, 2, none⟩ = some (.int .i64 M.pgs) := fun w' hb => cells_at (heap_keep hb hT) 2 _ rfl
  have g3 : ∀ w', Below w.heap.size w w' → w'.cell? ⟨L.p, 3, none⟩ = some (.int .i64 M.siz) := fun w' hb => cells_at (heap_keep hb hT) 3 _ rfl
  have g5 : ∀ w', Below w.heap.size w w' → w'.cell? ⟨L.p, 5, none⟩ = some (.slice (some ⟨L.dd, 0, none⟩) (M.mem + 1) L.dc) := fun w' hb => cells_at (heap_keep hb hT) 5 _ rfl
  have g8 : ∀ w', Below w.heap.size w w' → w'.cell? ⟨L.p, 8, none⟩ = some (.bool M.off) := fun w' hb => cells_at (heap_keep hb hT) 8 _ rfl
  obtain ⟨nd, hnd⟩ : ∃ nd, nd = (List.range ((M.mem + 1) * 1)).map fun c => Value.bool (M.gone c) := ⟨_, rfl⟩
  have hn1 : nd.length = (M.mem + 1) * 1 := by rw [hnd]; simp
  have hn2 : ∀ w', Below w.heap.size w w' → ∀ j u, nd[j]? = some u → w'.cell? ((⟨L.dd, 0, none⟩ : Addr).add j) = some u := fun w' hb j u hu => by
    rw [hnd] at hu
    obtain ⟨hj, rfl⟩ := List.getElem?_eq_some_iff.mp hu
    simp only [List.length_map, List.length_range, Nat.mul_one] at hj
    rw [add_plain, Nat.zero_add, (h.dead.below hb).cell hj]; simp
  have hn3 : ∀ u ∈ nd, u.oneCell' = true := fun u hu => by rw [hnd] at hu; obtain ⟨c, -, rfl⟩ := List.mem_map.mp hu; rfl
  have hn4 : ∀ u ∈ nd, NB u := fun u hu => by rw [hnd] at hu; obtain ⟨c, -, rfl⟩ := List.mem_map.mp hu; exact nb_bool _
  have hn5 : ∀ u ∈ (Value.bool false).cells.toList, NB u := fun u hu => by simp [Value.cells] at hu; subst hu; exact nb_bool _
  have HND := Lib.hid (⟨hnd, hn1, hn2, hn3, hn4, hn5⟩ : _ ∧ _ ∧ _ ∧ _ ∧ _ ∧ _)
  clear hnd hn1 hn2 hn3 hn4 hn5
  obtain ⟨tb, htb, hy0, hy1, hy2⟩ := info_parts infoBool
  obtain ⟨te, hte, he0, he1, he2⟩ := info_parts infoEv
  have HN := Lib.hid (⟨h, herr, hT⟩ : _ ∧ _ ∧ _)
  clear h herr hT
  go_enter Try.func29, Try.ntmps29
  go_wp2_with fail
  (refine wp_region_mix [0,1,2,3,4,5,6,7,9,11,12,13,14,8,10,15,16,17] [(true, true), (true, true), (true, true), (true, false), (true, true), (true, true), (true, true), (true, false), (true, true), (true, true), (true, true), (true, true), (true, false), (false, true), (false, true), (true, true), (false, false), (true, true)] [0,1,3,7,0,16,48,112,240,0,1008,0,2048,6144,14336,32767,65535,131071] (fun w' => Below w.heap.size w w') (by kernel_rfl) (by kernel_rfl) ?_ ?_; rotate_left; simp only [pickL, List.map_cons, List.map_nil, List.getD_cons_succ, List.getD_cons_zero])
  rotate_left
  exact ⟨rfl, rfl, rfl, Nat.le_refl _, fun _ _ => rfl⟩
  have hC : Below w.heap.size w w.drew := ⟨rfl, rfl, rfl, Nat.le_refl _, fun _ _ => rfl⟩
  repeat (first | (refine mix_pure (fun hne K hK => ?_); go_simp; refine hK _ ?_; clear hK K hne) | (refine mix_load ?_ (fun K hK => ?_); (focus (first | rfl | (go_simp; done))); apply Exists.intro; apply And.intro; (focus (intro w' hC; go_simp; exact rfl)); go_simp; refine hK _ ?_; clear hK K) | (refine mix_skip ?_ (fun K hK => ?_); (focus (first | rfl | (go_simp; done))); go_simp; refine hK _ ?_; clear hK K))
  (refine mix_one (by first | rfl | (go_simp; done)) (fun R hR hX => ?_))
  go_wp2_with (at_builtin; refine wpList_append_nb _ rfl _ _ 59 rfl w.heap.size 4 tb (.bool false) 1 1 Try.underlying59 htb hy0 hy1 hy2 rfl (by decide) (.slice none 0 0) 0 [] rfl (World.ownsRow_nil _ _ _ _) ⟨L.dd, 0, none⟩ (M.mem + 1) L.dc nd rfl HND.out.2.1 (HND.out.2.2.1 _ hC) HND.out.2.2.2.1 ?c3 ?c4 (Nat.le_refl _) (RowNB.nil _) HND.out.2.2.2.2.2 HND.out.2.2.2.2.1 ?_)
  case c3 => simp only [maxLen]; omega
  case c4 => omega
  intro dv w1 hown hg hnb _
  rw [HND.out.1] at hown
  (try simp only [Nat.zero_add, List.nil_append] at hown)
  clear HND
  obtain ⟨db, dk, rfl, hdw, hdk, hdead⟩ := own_row hown hnb (by omega)
  rw [Nat.mul_one] at hdead
  replace hC := hC.trans ((below_grown_none hg).mono hC.size)
  have hdn := hdead.lt
  clear hown hg hnb
  go_wp2_with fail
  refine hR _ _ rfl ⟨_, hC, fun _ => rfl, ?_⟩
  clear hR hX R
  (refine mix_one (by first | rfl | (go_simp; done)) (fun R hR hX => ?_))
  go_wp2_with (at_builtin; refine wpList_append_own_none rfl _ _ 50 rfl w.heap.size 92 te 4 Try.underlying50 hte (.slice none 0 0) 0 [] rfl (World.ownsRow_nil _ _ _ _) rfl ?_)
  go_wp2_with fail
  refine hR _ _ rfl ⟨_, hC, fun _ => rfl, ?_⟩
  clear hR hX R
  repeat (first | (refine mix_pure (fun hne K hK => ?_); go_simp; refine hK _ ?_; clear hK K hne) | (refine mix_load ?_ (fun K hK => ?_); (focus (first | rfl | (go_simp; done))); apply Exists.intro; apply And.intro; (focus (intro w' hC; go_simp; exact rfl)); go_simp; refine hK _ ?_; clear hK K) | (refine mix_skip ?_ (fun K hK => ?_); (focus (first | rfl | (go_simp; done))); go_simp; refine hK _ ?_; clear hK K))
  have hal := (Below.refl w1.heap.size w1).alloc (Nat.le_refl _) (.cells (cpTop M db dk (.slice none 0 0)) 85)
  have hCz := hC.trans (hal.mono hC.size)
  obtain ⟨pb, hpb⟩ : ∃ pb, pb = w1.heap.size := ⟨_, rfl⟩
  have htop : (w1.alloc (.cells (cpTop M db dk (.slice none 0 0)) 85)).heap[pb]? = some (.cells (cpTop M db dk (.slice none 0 0)) 85 (0, 0)) := heap_is hpb
  have hdz := hdead.below hal
  have hpw : w.heap.size ≤ pb := by rw [hpb]; exact hC.size
  have hinv : CpInv M L.pv pb db dk w 0 (fun _ => 0) (fun _ _ => 0) (fun _ _ => 0) (fun x => if x = pb then .top else if x = db then .dead else .none) (.slice none 0 0) (w1.alloc (.cells (cpTop M db dk (.slice none 0 0)) 85)) := by
    refine ⟨hCz, htop, World.ownsRow_nil _ _ _ _, fun g h => by simp [Value.ownBlock] at h, hdz, fun i hi => by omega, fun i j hi => by omega, fun i j hi => by omega, if_pos rfl, ?_, fun i hi => by omega, fun i j hi => by omega, fun x hx => ?_, fun x hx => ?_⟩
    · rw [if_neg (by omega), if_pos rfl]
    · by_cases e1 : x = pb
      · exact .inl e1
      · by_cases e2 : x = db
        · exact .inr (.inl e2)
        · rw [if_neg e1, if_neg e2] at hx; simp [Tag.mut] at hx
    · by_cases e1 : x = pb
      · subst e1; exact ⟨hpw, heap_lt htop⟩
      · by_cases e2 : x = db
        · subst e2; exact ⟨hdw, hdz.lt⟩
        · rw [if_neg e1, if_neg e2] at hx; exact absurd rfl hx
  have hTz := heap_keep hCz HN.out.2.2
  have g4 := cells_at hTz 4 _ rfl
  simp only [List.getElem_toArray, List.getElem_cons_succ, List.getElem_cons_zero] at g4
  have hlz := heap_lt hTz
  have HINV := Lib.hid hinv
  have HDK := Lib.hid (⟨hdk, hpw⟩ : _ ∧ _)
  unfold cpTop at HINV hCz g4 hlz
  clear hal htop hdz hinv hTz hdead hdn hdw hdk hpw
  (refine mix_one (by first | rfl | (go_simp; done)) (fun R hR hX => ?_))
  go_wp2_with fail
  rw [← hpb]
  generalize w1.alloc (.cells #[.int .i64 M.mem, .int .i64 M.blk, .int .i64 M.pgs, .int .i64 M.siz, .slice none 0 0, .slice (some ⟨db, 0, none⟩) (M.mem + 1) dk, .slice none 0 0, .int .i64 0, .bool M.off] 85) = wz at hCz g4 hlz HINV ⊢
  refine hR _ _ rfl ⟨_, hCz, fun _ => rfl, ?_⟩
  clear hR hX R hC hpb
  repeat (first | (refine mix_pure (fun hne K hK => ?_); go_simp; refine hK _ ?_; clear hK K hne) | (refine mix_load ?_ (fun K hK => ?_); (focus (first | rfl | (go_simp; done))); apply Exists.intro; apply And.intro; (focus (intro w' hC; go_simp; exact rfl)); go_simp; refine hK _ ?_; clear hK K) | (refine mix_skip ?_ (fun K hK => ?_); (focus (first | rfl | (go_simp; done))); go_simp; refine hK _ ?_; clear hK K))
  refine mix_done ?_
  clear g0 g1 g2 g3 g5 g8
  go_wp2_with fail
  clear g4 hlz
  have hmk2 : ∀ w, (Instr.makeSlice 86 (.int .i64 M.blk) (.int .i64 M.blk)).run Try.prog w = .ok (.slice (some ⟨w.heap.size, 0, none⟩) M.blk M.blk) (w.alloc (.cells (madeCells #[.slice none 0 0, .int .i64 0, .int .i64 0, .bool false] (M.blk * 4)) 89)) := fun w => make_any Try.underlying86 infoBlk M.blk (by omega) (by omega) w
  go_loopw [35] (fun i wr => ∃ k : Nat, k ≤ M.mem + 1 ∧ i = .int .i64 k ∧ ∃ cb pj pq tag cv, CpInv M L.pv pb db dk w k cb pj pq tag cv wr) (fun i _ => M.mem + 1 - (intOf i).toNat)
  case atStart => exact ⟨0, Nat.zero_le _, rfl, _, _, _, _, _, HINV.out⟩
  case round =>
    clear HINV
    obtain ⟨k, hk, rfl, cb, pj, pq, tag, cv, hI⟩ := hrel
    generalize wr = wo at hI ⊢
    by_cases hlt : k < M.mem + 1
    · have hkm : k ≤ M.mem := by omega
      have hlt' : (k : Int) < (M.mem : Int) + 1 := by omega
      have tcs := (HN.out.1.below hI.bel).chips.cell (o := k) hlt
      have hlcs := cell_lt tcs
      obtain ⟨q, hq⟩ : ∃ q, q = wo.heap.size := ⟨_, rfl⟩
      have hrow0 : Row (wo.alloc (.cells (madeCells #[.slice none 0 0, .int .i64 0, .int .i64 0, .bool false] (M.blk * 4)) 89)) q (M.blk * 4) (cpCell M (fun _ => 0) (fun _ => 0) k 0) := by
        refine (Row.made (z := #[.slice none 0 0, .int .i64 0, .int .i64 0, .bool false]) hq (by decide) (fun v hv => ?_)).congr fun o ho => ?_
        · simp at hv
          rcases hv with rfl | rfl | rfl
          · exact nb_slice _ _ _
          · exact nb_i64 _
          · exact nb_bool _
        · unfold cpCell
          have : o % 4 = 0 ∨ o % 4 = 1 ∨ o % 4 = 2 ∨ o % 4 = 3 := by omega
          rcases this with e | e | e | e <;> simp [e, nilV]
      have hin : CpIn M (L.pv k) k q wo 0 (fun _ => 0) (fun _ => 0) (fun _ => none) (wo.alloc (.cells (madeCells #[.slice none 0 0, .int .i64 0, .int .i64 0, .bool false] (M.blk * 4)) 89)) :=
        ⟨by rw [hq]; exact (Below.refl _ _).alloc (Nat.le_refl _) _, hrow0, fun i hi => by omega, fun i hi => by omega, fun i hi => by omega, fun x hx => absurd rfl hx, by rw [hq]; simp⟩
      have HI := Lib.hid hI
      have HQ := Lib.hid hq
      clear hI hrow0
      go_wp2_with fail
      rw [← hq]
      generalize wo.alloc (.cells (madeCells #[.slice none 0 0, .int .i64 0, .int .i64 0, .bool false] (M.blk * 4)) 89) = wa at hin ⊢
      clear hq tcs hlcs
      go_loopw [44] (fun i wi => ∃ j : Nat, j ≤ M.blk ∧ i = .int .i64 j ∧ ∃ pk pqk t, CpIn M (L.pv k) k q wo j pk pqk t wi) (fun i _ => M.blk - (intOf i).toNat)
      case atStart => exact ⟨0, Nat.zero_le _, rfl, _, _, _, hin⟩
      case round =>
        clear hin
        obtain ⟨j, hj, rfl, pk, pqk, t, hJ⟩ := hrel
        have hwq : w.heap.size ≤ q := by rw [HQ.out]; exact HI.out.bel.size
        have hBw : Below w.heap.size w wr := HI.out.bel.trans (hJ.bel.mono hwq)
        by_cases hjl : j < M.blk
        · have hj' : (j : Int) < (M.blk : Int) := by omega
          have hNb := HN.out.1.below hBw
          have b0 := (hNb.blk k hkm).cell (o := j * 4) (by omega)
          have b1 := (hNb.blk k hkm).cell (o := j * 4 + 1) (by omega)
          have b2 := (hNb.blk k hkm).cell (o := j * 4 + 2) (by omega)
          have b3 := (hNb.blk k hkm).cell (o := j * 4 + 3) (by omega)
          rw [blkCells0] at b0
          rw [blkCells1] at b1
          rw [blkCells2] at b2
          rw [blkCells3] at b3
          have hlb := cell_lt b0
          have c0 := hJ.row.cell (o := j * 4) (by omega)
          have c1 := hJ.row.cell (o := j * 4 + 1) (by omega)
          have c2 := hJ.row.cell (o := j * 4 + 2) (by omega)
          have c3 := hJ.row.cell (o := j * 4 + 3) (by omega)
          have f0 := hJ.row.froz (j * 4)
          have f1 := hJ.row.froz (j * 4 + 1)
          have f2 := hJ.row.froz (j * 4 + 2)
          have f3 := hJ.row.froz (j * 4 + 3)
          have hlq := hJ.row.lt
          generalize cpCell M pk pqk k j (j * 4) = v0 at c0
          generalize cpCell M pk pqk k j (j * 4 + 1) = v1 at c1
          generalize cpCell M pk pqk k j (j * 4 + 2) = v2 at c2
          generalize cpCell M pk pqk k j (j * 4 + 3) = v3 at c3
          have hrow2 := ((((hJ.row.set (o := j * 4) (.slice (some ⟨L.pb k j, 0, none⟩) M.pgs (L.pc k j)) (by omega) (nb_slice _ _ _)).set (o := j * 4 + 1) (.int .i64 (M.next k j)) (by omega) (nb_i64 _)).set (o := j * 4 + 2) (.int .i64 (M.erases k j)) (by omega) (nb_i64 _)).set (o := j * 4 + 3) (.bool (M.bad k j)) (by omega) (nb_bool _)).below ((Below.refl _ _).alloc (Nat.le_refl _) (.cells #[.slice (some ⟨L.pb k j, 0, none⟩) M.pgs (L.pc k j), .int .i64 (M.next k j), .int .i64 (M.erases k j), .bool (M.bad k j)] 89))
          have hO2 : Only (fun x => x = q) wr (((((wr.setCell ⟨q, j * 4, none⟩ (.slice (some ⟨L.pb k j, 0, none⟩) M.pgs (L.pc k j))).setCell ⟨q, j * 4 + 1, none⟩ (.int .i64 (M.next k j))).setCell ⟨q, j * 4 + 2, none⟩ (.int .i64 (M.erases k j))).setCell ⟨q, j * 4 + 3, none⟩ (.bool (M.bad k j))).alloc (.cells #[.slice (some ⟨L.pb k j, 0, none⟩) M.pgs (L.pc k j), .int .i64 (M.next k j), .int .i64 (M.erases k j), .bool (M.bad k j)] 89)) := ((((Only.of_set wr ⟨q, j * 4, none⟩ _).set ⟨q, j * 4 + 1, none⟩ _ fun _ => rfl).set ⟨q, j * 4 + 2, none⟩ _ fun _ => rfl).set ⟨q, j * 4 + 3, none⟩ _ fun _ => rfl).alloc (.cells #[.slice (some ⟨L.pb k j, 0, none⟩) M.pgs (L.pc k j), .int .i64 (M.next k j), .int .i64 (M.erases k j), .bool (M.bad k j)] 89)
          have hbox : (((((wr.setCell ⟨q, j * 4, none⟩ (.slice (some ⟨L.pb k j, 0, none⟩) M.pgs (L.pc k j))).setCell ⟨q, j * 4 + 1, none⟩ (.int .i64 (M.next k j))).setCell ⟨q, j * 4 + 2, none⟩ (.int .i64 (M.erases k j))).setCell ⟨q, j * 4 + 3, none⟩ (.bool (M.bad k j))).alloc (.cells #[.slice (some ⟨L.pb k j, 0, none⟩) M.pgs (L.pc k j), .int .i64 (M.next k j), .int .i64 (M.erases k j), .bool (M.bad k j)] 89)).heap[wr.heap.size]? = some (.cells #[.slice (some ⟨L.pb k j, 0, none⟩) M.pgs (L.pc k j), .int .i64 (M.next k j), .int .i64 (M.erases k j), .bool (M.bad k j)] 89 (0, 0)) := heap_is (by simp only [size_set])
          have hB2 : Below w.heap.size w (((((wr.setCell ⟨q, j * 4, none⟩ (.slice (some ⟨L.pb k j, 0, none⟩) M.pgs (L.pc k j))).setCell ⟨q, j * 4 + 1, none⟩ (.int .i64 (M.next k j))).setCell ⟨q, j * 4 + 2, none⟩ (.int .i64 (M.erases k j))).setCell ⟨q, j * 4 + 3, none⟩ (.bool (M.bad k j))).alloc (.cells #[.slice (some ⟨L.pb k j, 0, none⟩) M.pgs (L.pc k j), .int .i64 (M.next k j), .int .i64 (M.erases k j), .bool (M.bad k j)] 89)) := hBw.trans (hO2.below hBw.size fun x hx hh => by omega)
          generalize hf2 : (fun i => if i = j * 4 + 3 then _ else _) = fn at hrow2
          generalize hw2 : ((((wr.setCell ⟨q, j * 4, none⟩ (.slice (some ⟨L.pb k j, 0, none⟩) M.pgs (L.pc k j))).setCell ⟨q, j * 4 + 1, none⟩ (.int .i64 (M.next k j))).setCell ⟨q, j * 4 + 2, none⟩ (.int .i64 (M.erases k j))).setCell ⟨q, j * 4 + 3, none⟩ (.bool (M.bad k j))).alloc (.cells #[.slice (some ⟨L.pb k j, 0, none⟩) M.pgs (L.pc k j), .int .i64 (M.next k j), .int .i64 (M.erases k j), .bool (M.bad k j)] 89) = w2 at hrow2 hO2 hbox hB2
          have HJ := Lib.hid (⟨hJ, hBw, hwq, hNb, hrow2, hO2, hB2, hf2⟩ : _ ∧ _ ∧ _ ∧ _ ∧ _ ∧ _ ∧ _ ∧ _)
          have HW2 := Lib.hid hw2
          obtain ⟨np, hnp⟩ : ∃ np, np = (List.range (M.pgs * 2)).map (L.pv k j) := ⟨_, rfl⟩
          have hq1 : np.length = M.pgs * 2 := by rw [hnp]; simp
          have hq2 : ∀ x u, np[x]? = some u → w2.cell? ((⟨L.pb k j, 0, none⟩ : Addr).add x) = some u := fun x u hx => pv_cells (HN.out.1.below hB2) hkm hjl x u (by rw [← hnp]; exact hx)
          have hq3 : ∀ u ∈ np, u.oneCell' = true ∧ NB u := fun u hu => pv_list HN.out.1 hkm hjl u (by rw [← hnp]; exact hu)
          have HNP := Lib.hid (⟨hnp, hq1, hq2, fun u hu => (hq3 u hu).1, fun u hu => (hq3 u hu).2⟩ : _ ∧ _ ∧ _ ∧ (∀ u ∈ np, u.oneCell' = true) ∧ ∀ u ∈ np, NB u)
          have d0 := cells_at hbox 0 _ rfl
          have hld := heap_lt hbox
          simp only [List.getElem_toArray, List.getElem_cons_succ, List.getElem_cons_zero] at d0
          obtain ⟨tp, htp, hz0, hz1, hz2⟩ := info_parts infoPage
          clear hq1 hq2 hq3 hnp
          clear hJ hBw hwq hNb hrow2 hO2 hB2 hf2 hw2 hbox
          go_upto_region 12 with (fail)
          rw [HW2.out]
          clear b0 b1 b2 b3 c0 c1 c2 c3 f0 f1 f2 f3
          go_wp2_with (at_builtin; refine wpList_append_nb _ rfl _ _ 87 rfl w2.heap.size 96 tp (.agg #[.slice none 0 0, .slice none 0 0]) 2 48 Try.underlying87 htp hz0 hz1 hz2 rfl (by decide) (.slice none 0 0) 0 [] rfl (World.ownsRow_nil _ _ _ _) ⟨L.pb k j, 0, none⟩ M.pgs (L.pc k j) np rfl HNP.out.2.1 HNP.out.2.2.1 HNP.out.2.2.2.1 ?c3 ?c4 (Nat.le_refl _) (RowNB.nil _) ?c7 HNP.out.2.2.2.2 ?_)
          case c3 => simp only [maxLen]; omega
          case c4 => omega
          case c7 => intro u hu; simp [Value.cells] at hu; subst hu; exact nb_slice _ _ _
          intro pv' w3 hown hg hnb _
          rw [HNP.out.1] at hown
          (try simp only [Nat.zero_add, List.nil_append] at hown)
          obtain ⟨g, cap, rfl, hgl, hcap, hpg⟩ := own_row hown hnb (by omega)
          have hb3 := below_grown_none hg
          obtain ⟨hJ, hBw, hwq, hNb, hrow2, hO2, hB2, hf2⟩ := HJ.out
          have hst := hJ.step hjl (by rw [HQ.out]; exact Nat.le_refl _) hO2 hrow2 (fun o ho => by rw [← hf2]; simp only; rw [if_neg (by omega), if_neg (by omega), if_neg (by omega), if_neg (by omega)]) (by rw [← hf2]; simp only; rw [if_neg (by omega), if_neg (by omega), if_pos trivial]) (by rw [← hf2]; simp only; rw [if_neg (by omega), if_pos trivial]) (by rw [← hf2]; simp only; rw [if_pos trivial]) hb3 hgl hpg hcap
          have hrow3 := hrow2.below hb3
          have c0 := hrow3.cell (o := j * 4) (by omega)
          have f0 := hrow3.froz (j * 4)
          have hl3 := hrow3.lt
          generalize fn (j * 4) = v0 at c0
          have HST := Lib.hid (⟨hst, hjl⟩ : _ ∧ _)
          clear hown hg hnb hgl hcap hpg hb3 hJ hBw hwq hNb hrow2 hO2 hB2 hf2 hst hrow3 HJ HW2 HNP d0 hld
          go_wp2_with fail
          go_roundw
          case rel => exact ⟨j + 1, HST.out.2, by go_num, _, _, _, HST.out.1⟩
          case measure => have := HST.out.2; simp [intOf]; omega
        · obtain rfl : j = M.blk := by omega
          have hI := HI.out
          obtain ⟨ca, ck, rfl⟩ := own_slice hI.row
          have hpq : pb < q := by rw [HQ.out]; exact heap_lt hI.top
          have hpw := hI.top
          rw [← hJ.bel.block pb hpq] at hpw
          unfold cpTop at hpw
          have hp4 := cells_at hpw 4 _ rfl
          have hp4f := froz_at hpw 4
          have hlp := heap_lt hpw
          simp only [List.getElem_toArray, List.getElem_cons_succ, List.getElem_cons_zero] at hp4
          have hrw : wr.ownsRow w.heap.size 86 1 (.slice ca k ck) k (cvRow cb M.blk k) := own_only hI.row (Only.of_below hJ.bel) fun x hx (hqx : q ≤ x) => by
            have := (hI.lt x (by rw [hI.rowt x hx]; simp)).2
            have := HQ.out
            omega
          obtain ⟨ti, hti, hz0, hz1, hz2⟩ := info_parts infoBlkS
          have hwr : w.heap.size ≤ wr.heap.size := hBw.size
          have HJ := Lib.hid (⟨hJ, hpw⟩ : _ ∧ _)
          clear hJ hI hpw hBw hwq hpq
          go_wp2_with (at_builtin; (refine wpList_append_row rfl _ _ 83 rfl w.heap.size 86 ti (.slice none 0 0) 24 Try.underlying83 hti hz0 hz1 hz2 rfl (.slice ca k ck) k (cvRow cb M.blk k) rfl (hrw.alloc _) (.slice (some ⟨wr.heap.size, 0, none⟩) 1 1) [.slice (some ⟨q, 0, none⟩) M.blk M.blk] rfl (RV.single' _ _) (one_cell rfl) ?c3 ?c4 (by simp; omega) ?_))
          case c3 => simp; unfold maxLen; omega
          case c4 => simp; omega
          intro cv' w5 hown hg hnew
          obtain ⟨hJ, hpw⟩ := HJ.out
          have hI := HI.out
          have hb4 := (Below.refl wr.heap.size wr).alloc (Nat.le_refl _) (.cells #[.slice (some ⟨q, 0, none⟩) M.blk M.blk] 86)
          have hpc : ¬ (Value.slice ca k ck).ownBlock = some pb := fun hx => by have := hI.rowt pb hx; rw [hI.tp] at this; cases this
          have hOg := Only.of_grown hg
          have hp5 := hOg.at (heap_keep hb4 hpw) hpc
          obtain ⟨ca', ck', rfl⟩ := own_slice hown
          have hn4 := cells_at hp5 4 _ rfl
          have hn4f := froz_at hp5 4
          have hlp5 := heap_lt hp5
          simp only [List.getElem_toArray, List.getElem_cons_succ, List.getElem_cons_zero] at hn4
          have hp6 := set_at (o := 4) hp5 (.slice ca' (k + 1) ck')
          simp only [List.setIfInBounds_toArray, List.set_cons_zero, List.set_cons_succ] at hp6
          have hO6 : Only (CpTurn pb (.slice ca k ck)) wr (w5.setCell ⟨pb, 4, none⟩ (.slice ca' (k + 1) ck')) :=
            (((Only.of_alloc _ wr (.cells #[.slice (some ⟨q, 0, none⟩) M.blk M.blk] 86)).trans (hOg.mono (S' := CpTurn pb (.slice ca k ck)) fun _ _ h => .inl h) fun _ _ h => h).trans ((Only.of_set w5 ⟨pb, 4, none⟩ (.slice ca' (k + 1) ck')).mono (S' := CpTurn pb (.slice ca k ck)) fun _ _ h => .inr h) fun _ _ h => h)
          have hown6 := own_only hown (Only.of_set w5 ⟨pb, 4, none⟩ (.slice ca' (k + 1) ck')) (fun x hx hh => by
            have hh : x = pb := hh
            subst hh
            rcases hnew x hx with h | h
            · exact hpc h
            · have h1 := heap_lt hpw
              have h2 := hb4.size
              omega)
          obtain ⟨tag', hst⟩ := hI.step hJ HQ.out hO6 hp6 hown6 (fun x hx => (hnew x hx).imp_right fun h => by have := hb4.size; omega)
          have HST := Lib.hid (⟨hst, hlt⟩ : _ ∧ _)
          clear hown hg hnew hJ hpw hI hb4 hpc hOg hp5 hp6 hO6 hown6 hst hrw HJ HI hp4 hp4f
          go_wp2_with fail
          go_roundw
          case rel => exact ⟨k + 1, HST.out.2, by go_num, _, _, _, tag', _, HST.out.1⟩
          case measure => have := HST.out.2; simp [intOf]; omega
    · obtain rfl : k = M.mem + 1 := by omega
      have HX := Lib.hid (hI.made HN.out.1 HN.out.2.1 HDK.out.1)
      clear hI
      go_wp2_with fail
      go_ret
      exact HX.out
end Go.Proofs.Ytphnjiokihbhnaa
