/- the reference's chips while they are made. -/
--only r2
import Derived.Test.YtphnjiokihbhnaaNandSpec
import Derived.Test.YtphnjiokihbhnaaNandNew
/- append onto an own row: its spare cells hold no byte either. -/
namespace Go.Proofs.Ytphnjiokihbhnaa
set_option linter.unusedVariables false
set_option linter.unusedSimpArgs false
open Go.RowKit

/-- a row's cells, spare ones too, are no bytes -/
def RowNB (w : World) (v : Value) : Prop := ∀ g cs t fz, v.ownBlock = some g → w.heap[g]? = some (.cells cs t fz) → ∀ x ∈ cs.toList, NB x
theorem RowNB.nil (w : World) : RowNB w (.slice none 0 0) := fun g cs t fz h => by simp [Value.ownBlock] at h
theorem RowNB.below {w w' : World} {v : Value} {base e size n : Nat} {xs : List Value} (hown : w.ownsRow base e size v n xs) (h : RowNB w v) {row : Option Nat} (hg : w.grownBy w' row) (hne : v.ownBlock = none ∨ v.ownBlock ≠ row) : RowNB w' v := by
  intro g cs t fz hv hh
  have hlt := (hown.lt g hv).2
  rw [hg.block g hlt (by rw [hv] at hne; simpa using hne)] at hh
  exact h g cs t fz hv hh
theorem RowNB.alloc {w : World} {v : Value} {base e size n : Nat} {xs : List Value} (hown : w.ownsRow base e size v n xs) (h : RowNB w v) (o : Obj) : RowNB (w.alloc o) v := RowNB.below hown h (World.grownBy_alloc w o none) (by cases hv : v.ownBlock <;> simp)
theorem RowNB.only {S : Nat → Prop} {w w' : World} {v : Value} {base e size n : Nat} {xs : List Value} (hown : w.ownsRow base e size v n xs) (h : RowNB w v) (hO : Only S w w') (hS : ∀ g, v.ownBlock = some g → ¬ S g) : RowNB w' v := by
  intro g cs t fz hv hh
  have hlt := (hown.lt g hv).2
  obtain ⟨o, ho⟩ : ∃ o, w.heap[g]? = some o := ⟨_, Array.getElem?_eq_getElem hlt⟩
  have := hO.at ho (hS g hv)
  rw [this] at hh
  cases hh
  exact h g cs t fz hv ho

theorem zero_nb {z : Array Value} (hz : ∀ u ∈ z.toList, NB u) (n : Nat) : ∀ u ∈ (Builtin.zeroCells z n).toList, NB u := fun u hu => by
  simp only [Builtin.zeroCells] at hu
  have := Array.mem_toList_iff.mp hu
  simp at this
  obtain ⟨i, hi, rfl⟩ := this
  have hz0 : 0 < z.size := Nat.pos_of_ne_zero fun e => by rw [e] at hi; simp at hi
  have hlt : i % z.size < z.size := Nat.mod_lt _ hz0
  rw [getElem!_pos z (i % z.size) hlt]
  exact hz _ (by simp)

theorem run_append_nb {P : Program} (w : World) (base : Nat) (t ty e : TypeId) (i : TypeInfo) (z : Value) (size bytes : Nat) (ht : P.underlying t = some (.slice e)) (hi : P.info? e = some i) (hz : i.zero = some z)
    (hsize : i.size = size) (hby : i.bytes = bytes) (hzs : z.cells.size = size) (hsz : 0 < size)
    (v : Value) (n : Nat) (xs : List Value) (hown : w.ownsRow base e size v n xs)
    (a : Addr) (m c : Nat) (news : List Value) (hl : news.length = m * size) (hnews : ∀ j u, news[j]? = some u → w.cell? (a.add j) = some u) (h1 : ∀ u ∈ news, u.oneCell' = true)
    (h63 : n + m ≤ maxLen) (hbytes : (n + m) * bytes ≤ 140737488355328) (hbase : base ≤ w.heap.size) (hnb : RowNB w v) (hzn : ∀ u ∈ z.cells.toList, NB u) (hnn : ∀ u ∈ news, NB u) :
    ∃ v' w', (Builtin.append_ #[t, t] ty #[v, .slice (some a) m c]).run P w = .ok v' w' ∧ w'.ownsRow base e size v' (n + m) (xs ++ news) ∧ w.grownBy w' v.ownBlock ∧ RowNB w' v' ∧ (∀ g, v'.ownBlock = some g → v.ownBlock = some g ∨ w.heap.size ≤ g) := by
  obtain ⟨v', w', hr, h2, h3, h4⟩ := run_append_own (P := P) w base t ty e i z size bytes ht hi hz hsize hby hzs hsz v n xs hown a m c news hl hnews h1 h63 hbytes hbase
  refine ⟨v', w', hr, h2, h3, ?_⟩
  subst hsize
  subst hby
  have hsmall : n + m ≤ 9223372036854775807 := by simp only [maxLen] at h63; omega
  rcases hown.2 with ⟨rfl, rfl⟩ | ⟨g, cap, cur, rfl, hbg, hg, hnc, hcm, hcs, htake⟩
  · by_cases hm : m = 0
    · rw [h4.mpr ⟨rfl, hm⟩]; exact ⟨RowNB.nil _, fun g h => by simp [Value.ownBlock] at h⟩
    · have hr2 := run_append_nil (P := P) w t ty e i z ht hi hz a m c news hl hnews (by omega) (by omega) (by simp only [Nat.zero_add] at hbytes; omega)
      rw [hr2] at hr
      cases hr
      refine ⟨?_, fun g h => .inr (by simp only [Value.ownBlock, Option.some.injEq] at h; omega)⟩
      intro g cs t' fz hg hh
      simp only [Value.ownBlock, Option.some.injEq] at hg
      subst hg
      rw [show w.heap.size = w.drew.heap.size from rfl, heap_alloc_new] at hh
      cases hh
      intro x hx
      simp only [Array.toList_append, List.mem_append] at hx
      rcases hx with hx | hx
      · exact hnn x (by simpa using hx)
      · exact zero_nb hzn _ x hx
  · have hcur := hnb g cur e (0, 0) rfl hg
    by_cases hroom : n + m ≤ cap
    · have hfit : n * i.size + news.length ≤ cur.size := by rw [hl, hcs, ← Nat.add_mul]; exact Nat.mul_le_mul_right _ hroom
      have hr2 := run_append_room (P := P) w t ty e i ht hi g n cap cur hg a m c news hl hnews h1 hroom hfit
      rw [hr2] at hr
      cases hr
      refine ⟨?_, fun g h => .inl h⟩
      intro g' cs t' fz hg' hh
      simp only [Value.ownBlock, Option.some.injEq] at hg'
      subst hg'
      rw [setRow_heap w g cur _ e _ hg] at hh
      cases hh
      intro x hx
      simp only [List.mem_append] at hx
      rcases hx with (hx | hx) | hx
      · exact hcur x (List.mem_of_mem_take hx)
      · exact hnn x hx
      · exact hcur x (List.mem_of_mem_drop hx)
    · have holds : ∀ j u, xs[j]? = some u → w.cell? ((⟨g, 0, none⟩ : Addr).add j) = some u := hown.cells (g := g) rfl
      have hr2 := run_append_grow (P := P) w t ty e i z ht hi hz ⟨g, 0, none⟩ n cap xs hown.1 holds a m c news hl hnews (by omega) (by omega) (growslice_fits (by omega) hbytes)
      rw [hr2] at hr
      cases hr
      refine ⟨?_, fun g h => .inr (by simp only [Value.ownBlock, Option.some.injEq] at h; omega)⟩
      intro g' cs t' fz hg' hh
      simp only [Value.ownBlock, Option.some.injEq] at hg'
      subst hg'
      rw [show w.heap.size = w.drew.heap.size from rfl, heap_alloc_new] at hh
      cases hh
      intro x hx
      simp only [Array.toList_append, List.mem_append] at hx
      rcases hx with (hx | hx) | hx
      · exact hcur x (by rw [← htake] at hx; exact List.mem_of_mem_take (by simpa using hx))
      · exact hnn x (by simpa using hx)
      · exact zero_nb hzn _ x hx
theorem wpList_append_nb {P : Program} (w : World) {ops : Array Oper} {rest : List Oper} {o : Oper} {a : Act} {Q : Exit → Act → World → Prop} (hgd : o.guard = none) (s x : Operand) (t : TypeId)
    (ho : o.op = .call { callee := .builtin .append, args := #[s, x], argTypes := #[t, t] })
    (base : Nat) (e : TypeId) (i : TypeInfo) (z : Value) (size bytes : Nat) (ht : P.underlying t = some (.slice e)) (hi : P.info? e = some i) (hz : i.zero = some z)
    (hsize : i.size = size) (hby : i.bytes = bytes) (hzs : z.cells.size = size) (hsz : 0 < size)
    (v : Value) (n : Nat) (xs : List Value) (hs : a.eval s = v) (hown : w.ownsRow base e size v n xs)
    (ad : Addr) (m c : Nat) (news : List Value) (hx : a.eval x = .slice (some ad) m c) (hl : news.length = m * size) (hnews : ∀ j u, news[j]? = some u → w.cell? (ad.add j) = some u) (h1 : ∀ u ∈ news, u.oneCell' = true)
    (h63 : n + m ≤ maxLen) (hbytes : (n + m) * bytes ≤ 140737488355328) (hbase : base ≤ w.heap.size) (hnb : RowNB w v) (hzn : ∀ u ∈ z.cells.toList, NB u) (hnn : ∀ u ∈ news, NB u)
    (h : ∀ v' w', w'.ownsRow base e size v' (n + m) (xs ++ news) → w.grownBy w' v.ownBlock → RowNB w' v' → (∀ g, v'.ownBlock = some g → v.ownBlock = some g ∨ w.heap.size ≤ g) → wpList P ops Q rest (a.put o.dst v') w') : wpList P ops Q (o :: rest) a w := by
  refine wpList_plain hgd fun K hK => ?_
  obtain ⟨v', w', hr, h2, h3, h4, h5⟩ := run_append_nb (P := P) w base t o.type e i z size bytes ht hi hz hsize hby hzs hsz v n xs hown ad m c news hl hnews h1 h63 hbytes hbase hnb hzn hnn
  unfold Oper.wp execOp
  simp only [ho, resolve, invoke, builtin, Sem.run_bind, Sem.run_pure, Result.andThen_ok, List.map_toArray, List.map_cons, List.map_nil, hs, hx, hr]
  exact hK _ _ (h v' w' h2 h3 h4 h5)
end Go.Proofs.Ytphnjiokihbhnaa
namespace Go.Proofs.Ytphnjiokihbhnaa
set_option linter.unusedVariables false
set_option linter.unusedSimpArgs false
open Go.RowKit

/-- a row of new blocks -/
def rblk (pk : Nat → Nat) (p o : Nat) : Value :=
  if o % 4 = 0 then .slice (some ⟨pk (o / 4), 0, none⟩) p p else if o % 4 = 1 then .int .i64 0 else if o % 4 = 2 then .int .i64 0 else .bool false
abbrev rchips (cb bc : Nat → Nat) (b k : Nat) : List Value := (List.range k).map fun i => .slice (some ⟨cb i, 0, none⟩) b (bc i)
theorem rchips_succ (cb bc : Nat → Nat) (b k g cap : Nat) : rchips (upd1 cb k g) (upd1 bc k cap) b (k + 1) = rchips cb bc b k ++ [.slice (some ⟨g, 0, none⟩) b cap] := by
  unfold rchips
  rw [List.range_succ, List.map_append]
  congr 1
  · apply List.map_congr_left
    intro i hi
    have := List.mem_range.mp hi
    rw [upd1_other (by omega), upd1_other (by omega)]
  · simp [upd1]
structure RInv (c b p s pb : Nat) (ea : Option Addr) (ec : Nat) (xs : List Ev) (w : World) (E : Nat → Prop) (k : Nat) (cb bc : Nat → Nat) (pj : Nat → Nat → Nat) (tag : Nat → Tag) (cv dv : Value) (wr : World) : Prop where
  bel : Below w.heap.size w wr
  pbw : w.heap.size ≤ pb
  top : wr.heap[pb]? = some (.cells #[.int .i64 c, .int .i64 b, .int .i64 p, .int .i64 s, cv, dv, .slice ea xs.length ec, .int .i64 0, .bool false] 61 (0, 0))
  row : wr.ownsRow w.heap.size 67 1 cv k (rchips cb bc b k)
  rowt : ∀ g, cv.ownBlock = some g → tag g = .chips
  drow : wr.ownsRow w.heap.size 4 1 dv k (List.replicate k (.bool false))
  dnb : RowNB wr dv
  dt : ∀ g, dv.ownBlock = some g → tag g = .dead
  blk : ∀ i, i < k → Row wr (cb i) (b * 4) (rblk (pj i) p)
  bcs : ∀ i, i < k → b ≤ bc i ∧ bc i ≤ maxLen
  pgs : ∀ i j, i < k → j < b → Row wr (pj i j) p fun _ => nilV
  te : ∀ x, E x → tag x = .evs
  tp : tag pb = .top
  tb : ∀ i, i < k → tag (cb i) = .chip i
  tg : ∀ i j, i < k → j < b → tag (pj i j) = .pages i j
  only : ∀ x, (tag x).mut = true → x = pb ∨ dv.ownBlock = some x ∨ (∃ i, i < k ∧ x = cb i) ∨ ∃ i j, i < k ∧ j < b ∧ x = pj i j
  lt : ∀ x, tag x ≠ .none → x < wr.heap.size ∧ (tag x ≠ .evs → w.heap.size ≤ x)
/-- what turns in a step -/
def RTurn (pb : Nat) (cv dv : Value) (x : Nat) : Prop := cv.ownBlock = some x ∨ dv.ownBlock = some x ∨ x = pb
theorem RInv.step {c b p s pb : Nat} {ea : Option Addr} {ec : Nat} {xs : List Ev} {w : World} {E : Nat → Prop} {k : Nat} {cb bc : Nat → Nat} {pj : Nat → Nat → Nat} {tag : Nat → Tag} {cv dv cv' dv' : Value} {wo w3 wf : World} {g cap : Nat} {pk : Nat → Nat} {t : Nat → Option Nat}
    (h : RInv c b p s pb ea ec xs w E k cb bc pj tag cv dv wo) (hb3 : Below wo.heap.size wo w3) (hrow : Row w3 g (b * 4) (rblk pk p)) (hgq : wo.heap.size ≤ g) (hcap : b ≤ cap ∧ cap ≤ maxLen) (hpg : ∀ j, j < b → Row w3 (pk j) p fun _ => nilV)
    (ht : ∀ j, j < b → t (pk j) = some j) (htg : t g = none) (htq : ∀ x, t x ≠ none → (∃ j, j < b ∧ x = pk j ∧ t x = some j) ∧ wo.heap.size ≤ x ∧ x < w3.heap.size)
    (hO : Only (RTurn pb cv dv) w3 wf) (htop : wf.heap[pb]? = some (.cells #[.int .i64 c, .int .i64 b, .int .i64 p, .int .i64 s, cv', dv', .slice ea xs.length ec, .int .i64 0, .bool false] 61 (0, 0)))
    (hcv : wf.ownsRow w.heap.size 67 1 cv' (k + 1) (rchips cb bc b k ++ [.slice (some ⟨g, 0, none⟩) b cap])) (hdv : wf.ownsRow w.heap.size 4 1 dv' (k + 1) (List.replicate (k + 1) (.bool false))) (hdn : RowNB wf dv')
    (hnc : ∀ x, cv'.ownBlock = some x → cv.ownBlock = some x ∨ w3.heap.size ≤ x) (hnd : ∀ x, dv'.ownBlock = some x → dv.ownBlock = some x ∨ (w3.heap.size ≤ x ∧ cv'.ownBlock ≠ some x)) :
    ∃ tag', RInv c b p s pb ea ec xs w E (k + 1) (upd1 cb k g) (upd1 bc k cap) (upd1 pj k pk) tag' cv' dv' wf := by
  obtain ⟨q, hq⟩ : ∃ q, q = wo.heap.size := ⟨_, rfl⟩
  rw [← hq] at hb3 hgq htq
  have hs3 := hb3.size
  have hg3 := hrow.lt
  have hqt : ∀ x, tag x ≠ .none → x < q := fun x hx => by rw [hq]; exact (h.lt x hx).1
  have hcq : ∀ x, cv.ownBlock = some x → x < q := fun x hx => hqt x (by rw [h.rowt x hx]; simp)
  have hdq : ∀ x, dv.ownBlock = some x → x < q := fun x hx => hqt x (by rw [h.dt x hx]; simp)
  have hpq := hqt pb (by rw [h.tp]; simp)
  have hTq : ∀ x, RTurn pb cv dv x → x < q := fun x hx => by
    rcases hx with hx | hx | rfl
    · exact hcq x hx
    · exact hdq x hx
    · exact hpq
  have hnT : ∀ x s, tag x = s → s ≠ .chips → s ≠ .dead → s ≠ .top → ¬ RTurn pb cv dv x := fun x s e h1 h2 h3 hx => by
    rcases hx with hx | hx | rfl
    · exact h1 (e.symm.trans (h.rowt x hx))
    · exact h2 (e.symm.trans (h.dt x hx))
    · exact h3 (e.symm.trans h.tp)
  have hOo : Only (RTurn pb cv dv) wo wf := (Only.new (by rw [← hq]; exact hb3) _).trans hO fun _ _ h => h
  have hnew : ∀ x, q ≤ x → ¬ RTurn pb cv dv x := fun x hx hh => by have := hTq x hh; omega
  have htn : ∀ x, x < q → t x = none := fun x hx => by
    by_cases e : t x = none
    · exact e
    · have := (htq x e).2.1; omega
  have hgn : ∀ x, x < q → x ≠ g := fun x hx => by omega
  refine ⟨fun x => if x = g then .chip k else match t x with | some j => .pages k j | none => if cv'.ownBlock = some x then .chips else if dv'.ownBlock = some x then .dead else if dv.ownBlock = some x then .none else tag x, ?_⟩
  generalize hT : (fun x => if x = g then Tag.chip k else match t x with | some j => .pages k j | none => if cv'.ownBlock = some x then .chips else if dv'.ownBlock = some x then .dead else if dv.ownBlock = some x then .none else tag x) = tag'
  have hTx : ∀ x, tag' x = if x = g then Tag.chip k else match t x with | some j => .pages k j | none => if cv'.ownBlock = some x then .chips else if dv'.ownBlock = some x then .dead else if dv.ownBlock = some x then .none else tag x := fun x => by rw [← hT]
  clear hT
  -- tags of old blocks that stay
  have hold : ∀ x s, tag x = s → s ≠ .none → s ≠ .chips → s ≠ .dead → tag' x = s := fun x s e h0 h1 h2 => by
    have hx := hqt x (by rw [e]; exact h0)
    rw [hTx, if_neg (hgn x hx), htn x hx]
    simp only
    rw [if_neg, if_neg, if_neg, e]
    · intro hh; exact h2 (e.symm.trans (h.dt x hh))
    · intro hh
      rcases hnd x hh with h3 | h3
      · exact h2 (e.symm.trans (h.dt x h3))
      · omega
    · intro hh
      rcases hnc x hh with h3 | h3
      · exact h1 (e.symm.trans (h.rowt x h3))
      · omega
  have hw3 : w.heap.size ≤ w3.heap.size := Nat.le_trans h.bel.size hs3
  have hwq : w.heap.size ≤ q := by rw [hq]; exact h.bel.size
  have hcx : ∀ x, cv'.ownBlock = some x → x ≠ g ∧ t x = none := fun x hx => by
    rcases hnc x hx with h3 | h3
    · exact ⟨hgn x (hcq x h3), htn x (hcq x h3)⟩
    · refine ⟨by omega, ?_⟩
      by_cases e : t x = none
      · exact e
      · have := (htq x e).2.2; omega
  have hdx : ∀ x, dv'.ownBlock = some x → x ≠ g ∧ t x = none ∧ cv'.ownBlock ≠ some x := fun x hx => by
    rcases hnd x hx with h3 | ⟨h3, h4⟩
    · refine ⟨hgn x (hdq x h3), htn x (hdq x h3), fun hh => ?_⟩
      rcases hnc x hh with h5 | h5
      · have := h.rowt x h5; rw [h.dt x h3] at this; cases this
      · have := hdq x h3; omega
    · refine ⟨by omega, ?_, h4⟩
      by_cases e : t x = none
      · exact e
      · have := (htq x e).2.2; omega
  refine ⟨h.bel.trans (hOo.below h.bel.size fun x hx hh => ?_), h.pbw, htop, by rw [rchips_succ]; exact hcv, fun x hx => ?_, hdv, hdn, fun x hx => ?_, fun i hi => ?_, fun i hi => ?_, fun i j hi hj => ?_, fun x hx => hold x _ (h.te x hx) (by simp) (by simp) (by simp), hold _ _ h.tp (by simp) (by simp) (by simp), fun i hi => ?_, fun i j hi hj => ?_, fun x hx => ?_, fun x hx => ?_⟩
  · rcases hh with hh | hh | rfl
    · have := (h.row.lt x hh).1; omega
    · have := (h.drow.lt x hh).1; omega
    · have := h.pbw; omega
  · obtain ⟨h1, h2⟩ := hcx x hx
    rw [hTx, if_neg h1, h2]; simp only; rw [if_pos hx]
  · obtain ⟨h1, h2, h3⟩ := hdx x hx
    rw [hTx, if_neg h1, h2]; simp only; rw [if_neg h3, if_pos hx]
  · by_cases e : i = k
    · subst e; rw [upd1_same, upd1_same]; exact hrow.only hO (hnew g hgq)
    · rw [upd1_other e, upd1_other e]; exact (h.blk i (by omega)).only hOo (hnT _ _ (h.tb i (by omega)) (by simp) (by simp) (by simp))
  · by_cases e : i = k
    · subst e; rw [upd1_same]; exact hcap
    · rw [upd1_other e]; exact h.bcs i (by omega)
  · by_cases e : i = k
    · subst e; rw [upd1_same]; exact (hpg j hj).only hO (hnew _ (htq _ (by rw [ht j hj]; simp)).2.1)
    · rw [upd1_other e]; exact (h.pgs i j (by omega) hj).only hOo (hnT _ _ (h.tg i j (by omega) hj) (by simp) (by simp) (by simp))
  · by_cases e : i = k
    · subst e; rw [upd1_same, hTx, if_pos rfl]
    · rw [upd1_other e]; exact hold _ _ (h.tb i (by omega)) (by simp) (by simp) (by simp)
  · by_cases e : i = k
    · subst e
      have hne : pk j ≠ g := fun e => by have := ht j hj; rw [e, htg] at this; cases this
      rw [upd1_same, hTx, if_neg hne, ht j hj]
    · rw [upd1_other e]; exact hold _ _ (h.tg i j (by omega) hj) (by simp) (by simp) (by simp)
  · rw [hTx] at hx
    by_cases e1 : x = g
    · exact .inr (.inr (.inl ⟨k, by omega, by rw [upd1_same]; exact e1⟩))
    · rw [if_neg e1] at hx
      by_cases e2 : t x = none
      · rw [e2] at hx
        simp only at hx
        by_cases e3 : cv'.ownBlock = some x
        · rw [if_pos e3] at hx; simp [Tag.mut] at hx
        · rw [if_neg e3] at hx
          by_cases e4 : dv'.ownBlock = some x
          · exact .inr (.inl e4)
          · rw [if_neg e4] at hx
            by_cases e5 : dv.ownBlock = some x
            · rw [if_pos e5] at hx; simp [Tag.mut] at hx
            · rw [if_neg e5] at hx
              rcases h.only x hx with h1 | h1 | ⟨i, hi, h1⟩ | ⟨i, j, hi, hj, h1⟩
              · exact .inl h1
              · exact absurd h1 e5
              · exact .inr (.inr (.inl ⟨i, by omega, by rw [upd1_other (by omega)]; exact h1⟩))
              · exact .inr (.inr (.inr ⟨i, j, by omega, hj, by rw [upd1_other (by omega)]; exact h1⟩))
      · obtain ⟨⟨j, hj, h1, h2⟩, -⟩ := htq x e2
        exact .inr (.inr (.inr ⟨k, j, by omega, hj, by rw [upd1_same]; exact h1⟩))
  · have hsf := hO.size
    rw [hTx] at hx ⊢
    by_cases e1 : x = g
    · subst e1; exact ⟨by omega, fun _ => by omega⟩
    · rw [if_neg e1] at hx ⊢
      by_cases e2 : t x = none
      · rw [e2] at hx ⊢
        simp only at hx ⊢
        by_cases e3 : cv'.ownBlock = some x
        · have := hcv.lt x e3; exact ⟨this.2, fun _ => this.1⟩
        · rw [if_neg e3] at hx ⊢
          by_cases e4 : dv'.ownBlock = some x
          · have := hdv.lt x e4; exact ⟨this.2, fun _ => this.1⟩
          · rw [if_neg e4] at hx ⊢
            by_cases e5 : dv.ownBlock = some x
            · rw [if_pos e5] at hx; exact absurd rfl hx
            · rw [if_neg e5] at hx ⊢
              have := h.lt x hx
              exact ⟨by have := this.1; omega, this.2⟩
      · have := (htq x e2).2
        exact ⟨by omega, fun _ => by omega⟩
theorem RInv.made {c b p s pb : Nat} {ea : Option Addr} {ec : Nat} {xs : List Ev} {w : World} {cb bc : Nat → Nat} {pj : Nat → Nat → Nat} {tag : Nat → Tag} {cv dv : Value} {wr : World}
    (h : RInv c b p s pb ea ec xs w (fun x => xs ≠ [] ∧ ea.map (·.block) = some x) (c + 1) cb bc pj tag cv dv wr) (hev : REv w ea ec xs (fun _ => True)) (hg : geoOk c b p s) (hxl : xs.length ≤ 200) (hxo : evsOk xs) :
    ∃ L : NdLay, L.p = pb ∧ L.ea = ea ∧ NdAt false wr L (Nd.fresh c b p s (fun _ _ => false) xs) ∧ ∀ x, L.tag x ≠ .none → L.tag x ≠ .evs → w.heap.size ≤ x := by
  obtain ⟨g1, g2, g3, g4, g5, g6, g7, g8, g9⟩ := hg
  rcases h.row.2 with ⟨_, h0⟩ | ⟨g, cap, cur, rfl, hgb, hgg, hnc, hcm, hcs, htk⟩
  · omega
  rcases h.drow.2 with ⟨_, h0⟩ | ⟨d, dcap, dcur, rfl, hdb, hdd, hdc, hdm, hds, hdt⟩
  · omega
  refine ⟨⟨pb, g, cap, d, dcap, cb, bc, pj, fun _ _ => p, fun _ _ _ => nilV, ea, ec, tag⟩, rfl, rfl, ?_, fun x hx hy => (h.lt x hx).2 hy⟩
  refine ⟨?_, ?_, fun o ho => ?_, ?_, fun i hi => ?_, fun i j hi hj => ?_, fun i j k hi hj hk => RB.nil _, ?_, ⟨⟨hnc, hcm⟩, ⟨hdc, hdm⟩, fun i hi => h.bcs i (Nat.lt_succ_of_le hi), fun _ _ _ _ => ⟨Nat.le_refl _, by show p ≤ maxLen; unfold maxLen; omega⟩⟩, h.tp, h.dt d rfl, h.rowt g rfl, fun i hi => h.tb i (Nat.lt_succ_of_le hi), fun i j hi hj => h.tg i j (Nat.lt_succ_of_le hi) hj, fun x hx => ?_, fun x hx => (h.lt x hx).1⟩
  · exact ⟨⟨by show 1 ≤ c; omega, by show c ≤ 16; omega⟩, ⟨by show 1 ≤ b; omega, by show b ≤ 64; omega⟩, ⟨by show 1 ≤ p; omega, by show p ≤ 32; omega⟩, ⟨by show 1 ≤ s; omega, by show s ≤ 1024; omega⟩, fun _ _ _ => .inl rfl, fun _ _ => Nat.zero_le _, fun _ _ => Nat.zero_le _, hxo, by show xs.length ≤ 1000; omega, by show 0 ≤ 1000000; omega⟩
  · exact h.top
  · have := h.row.cells (g := g) rfl o (.slice (some ⟨cb o, 0, none⟩) b (bc o)) (by
      show (rchips cb bc b (c + 1))[o]? = _
      unfold rchips
      rw [List.getElem?_map, List.getElem?_range (show o < c + 1 from ho)]; rfl)
    rwa [add_plain, Nat.zero_add] at this
  · refine ⟨dcur, _, hdd, fun o ho => ?_, fun o u hu => ?_⟩
    · have ho : o < c + 1 := ho
      have h2 : (dcur.toList.take ((c + 1) * 1))[o]? = some (.bool false) := by
        rw [hdt, List.getElem?_replicate, if_pos ho]
      rw [List.getElem?_take, if_pos (by omega)] at h2
      have h3 : dcur[o]? = some (.bool false) := by simpa using h2
      exact h3
    · have hm : u8v u ∈ dcur.toList := by
        have := Array.mem_of_getElem? hu
        exact Array.mem_toList_iff.mpr this
      exact h.dnb d dcur _ _ rfl hdd _ hm u rfl
  · refine (h.blk i (Nat.lt_succ_of_le hi)).congr fun o ho => ?_
    unfold rblk blkCells
    have : o % 4 = 0 ∨ o % 4 = 1 ∨ o % 4 = 2 ∨ o % 4 = 3 := by omega
    rcases this with e | e | e | e <;> simp [e, Nd.fresh]
  · have := h.pgs i j (Nat.lt_succ_of_le hi) hj
    show Row wr (pj i j) (p * 1) _
    rw [Nat.mul_one]; exact this
  · have h1 := hev.below h.bel
    obtain ⟨h2, h3, h0, h4⟩ := h1
    refine ⟨h2, h3, h0, ?_⟩
    by_cases he : xs = []
    · exact .inl he
    · refine .inr ((h4.resolve_left he).imp fun b' h5 => h5.imp fun o h6 => ⟨h6.1, h.te _ ⟨he, by rw [h6.1]; rfl⟩, h6.2.2⟩)
  · rcases h.only x hx with h1 | h1 | ⟨i, hi, h1⟩ | ⟨i, j, hi, hj, h1⟩
    · exact .inl h1
    · exact .inr (.inl (by simpa [Value.ownBlock] using h1.symm))
    · exact .inr (.inr (.inl ⟨i, Nat.le_of_lt_succ hi, h1⟩))
    · exact .inr (.inr (.inr ⟨i, j, Nat.le_of_lt_succ hi, hj, h1⟩))
end Go.Proofs.Ytphnjiokihbhnaa
