/- Chips in memory, one of whose cells is written. -/
--only r2
import Derived.Test.YtphnjiokihbhnaaNandSpec
namespace Go.Proofs.Ytphnjiokihbhnaa
set_option linter.unusedVariables false
set_option linter.unusedSimpArgs false
open Go.RowKit

section
variable {pr : Bool} {w w' : World} {L : NdLay} {M : Nd}

/-- all but one block, which is written -/
theorem NdAt.others {x : Nat} (h : NdAt pr w L M) (hx : L.S x) (hO : Only (fun b => b = x) w w') :
    (∀ b n f, Row w b n f → b ≠ x → Row w' b n f) ∧ (∀ c b p, c ≤ M.mem → b < M.blk → p < M.pgs → Pg pr w' (L.pv c b) M.siz p (M.page c b p)) ∧ REv w' L.ea L.ec M.evs (fun b => L.tag b = .evs) ∧ (∀ y, L.tag y ≠ .none → y < w'.heap.size) := by
  have hn : ∀ b, b < w.heap.size → b = x → NoByte w b := fun b _ e => by subst e; exact h.noByte hx
  exact ⟨fun b n f hr hb => hr.only hO hb, fun c b p hc hb hp => (h.pg c b p hc hb hp).only hO hn,
    h.evs.only hO (fun b _ e he => by subst e; unfold NdLay.S at hx; rw [he] at hx; cases hx) hn, fun y hy => Nat.lt_of_lt_of_le (h.lt y hy) hO.size⟩
theorem NdAt.ne_tag (h : NdAt pr w L M) {x y : Nat} {s t : Tag} (hx : L.tag x = s) (hy : L.tag y = t) (hst : s ≠ t) : x ≠ y := fun e => by
  subst e; exact hst (hx.symm.trans hy)

/-- a cell of the first block is written -/
theorem NdAt.setTop (h : NdAt pr w L M) (M' : Nd) (o : Nat) (u : Value) (hc : (topCells L M).setIfInBounds o u = topCells L M') (hok : M'.Ok)
    (e1 : M'.mem = M.mem) (e2 : M'.blk = M.blk) (e3 : M'.pgs = M.pgs) (e4 : M'.siz = M.siz) (e5 : M'.page = M.page) (e6 : M'.next = M.next) (e7 : M'.erases = M.erases) (e8 : M'.bad = M.bad) (e9 : M'.gone = M.gone) (e10 : M'.evs = M.evs) :
    NdAt pr (w.setCell ⟨L.p, o, none⟩ u) L M' := by
  have hO := Only.of_set w ⟨L.p, o, none⟩ u
  obtain ⟨hr, hp, he, hl⟩ := h.others h.Sp hO
  have ht := set_at (o := o) h.top u
  rw [hc] at ht
  obtain ⟨m1, m2, m3, m4, m5, m6, m7, m8, m9, m10, m11, m12⟩ := M'
  obtain ⟨n1, n2, n3, n4, n5, n6, n7, n8, n9, n10, n11, n12⟩ := M
  simp only at e1 e2 e3 e4 e5 e6 e7 e8 e9 e10
  subst e1 e2 e3 e4 e5 e6 e7 e8 e9 e10
  exact ⟨hok, ht, h.chips.only hO (h.ne_tag h.tc h.tp (by simp)), hr _ _ _ h.dead (h.ne_tag h.td h.tp (by simp)), fun c hc => hr _ _ _ (h.blk c hc) (h.ne_tag (h.tb c hc) h.tp (by simp)),
    fun c b hc hb => hr _ _ _ (h.pgs c b hc hb) (h.ne_tag (h.tg c b hc hb) h.tp (by simp)), hp, he, h.caps, h.tp, h.td, h.tc, h.tb, h.tg, h.only, hl⟩
theorem Nd.Ok.setOps (h : M.Ok) {n : Nat} (h1 : M.ops ≤ n) (h2 : n ≤ 1000000) : ({ M with ops := n } : Nd).Ok :=
  ⟨h.mem, h.blk, h.pgs, h.siz, h.page, h.next, fun c b => Nat.le_trans (h.erases c b) (Nat.add_le_add_left h1 _), h.left, h.evs, h2⟩
theorem Nd.Ok.setOff (h : M.Ok) (x : Bool) : ({ M with off := x } : Nd).Ok := ⟨h.mem, h.blk, h.pgs, h.siz, h.page, h.next, h.erases, h.left, h.evs, h.ops⟩
theorem Nd.Ok.setGone (h : M.Ok) (x : Nat → Bool) : ({ M with gone := x } : Nd).Ok := ⟨h.mem, h.blk, h.pgs, h.siz, h.page, h.next, h.erases, h.left, h.evs, h.ops⟩
theorem Nd.Ok.setBad (h : M.Ok) (x : Nat → Nat → Bool) : ({ M with bad := x } : Nd).Ok := ⟨h.mem, h.blk, h.pgs, h.siz, h.page, h.next, h.erases, h.left, h.evs, h.ops⟩
theorem Nd.Ok.setNext (h : M.Ok) (x : Nat → Nat → Nat) (hx : ∀ c b, x c b ≤ 255) : ({ M with next := x } : Nd).Ok := ⟨h.mem, h.blk, h.pgs, h.siz, h.page, hx, h.erases, h.left, h.evs, h.ops⟩
theorem Nd.Ok.setErases (h : M.Ok) (x : Nat → Nat → Nat) (hx : ∀ c b, x c b ≤ 4294967295 + M.ops) : ({ M with erases := x } : Nd).Ok := ⟨h.mem, h.blk, h.pgs, h.siz, h.page, h.next, hx, h.left, h.evs, h.ops⟩
theorem Nd.Ok.setPage (h : M.Ok) (x : Nat → Nat → Nat → List UInt8) (hx : ∀ c b p, x c b p = [] ∨ (x c b p).length = M.siz + 64) : ({ M with page := x } : Nd).Ok := ⟨h.mem, h.blk, h.pgs, h.siz, hx, h.next, h.erases, h.left, h.evs, h.ops⟩
theorem NdAt.setOps (h : NdAt pr w L M) {n : Nat} (h1 : M.ops ≤ n) (h2 : n ≤ 1000000) : NdAt pr (w.setCell ⟨L.p, 7, none⟩ (.int .i64 n)) L { M with ops := n } :=
  h.setTop { M with ops := n } 7 _ (by simp [topCells]) (h.ok.setOps h1 h2) rfl rfl rfl rfl rfl rfl rfl rfl rfl rfl
theorem NdAt.setOff (h : NdAt pr w L M) (x : Bool) : NdAt pr (w.setCell ⟨L.p, 8, none⟩ (.bool x)) L { M with off := x } :=
  h.setTop { M with off := x } 8 _ (by simp [topCells]) (h.ok.setOff x) rfl rfl rfl rfl rfl rfl rfl rfl rfl rfl

/-- a chip is dead -/
theorem NdAt.setGone (h : NdAt pr w L M) {c : Nat} (hc : c ≤ M.mem) (x : Bool) : NdAt pr (w.setCell ⟨L.dd, c, none⟩ (.bool x)) L { M with gone := upd1 M.gone c x } := by
  have hO := Only.of_set w ⟨L.dd, c, none⟩ (.bool x)
  obtain ⟨hr, hp, he, hl⟩ := h.others h.Sd hO
  refine ⟨h.ok.setGone _, hO.at h.top (h.ne_tag h.tp h.td (by simp)), h.chips.only hO (h.ne_tag h.tc h.td (by simp)), ?_, fun c hc => hr _ _ _ (h.blk c hc) (h.ne_tag (h.tb c hc) h.td (by simp)),
    fun c b hc hb => hr _ _ _ (h.pgs c b hc hb) (h.ne_tag (h.tg c b hc hb) h.td (by simp)), hp, he, h.caps, h.tp, h.td, h.tc, h.tb, h.tg, h.only, hl⟩
  refine (h.dead.set (.bool x) (by omega : c < M.mem + 1) (nb_bool _)).congr fun o ho => ?_
  by_cases e : o = c
  · simp [e, upd1]
  · simp [e, upd1]

/-- a cell of a block is written -/
theorem NdAt.setBlk (h : NdAt pr w L M) {c : Nat} (hc : c ≤ M.mem) (M' : Nd) (o : Nat) (u : Value) (ho : o < M.blk * 4) (hu : NB u) (hok : M'.Ok)
    (hcell : ∀ i, i < M.blk * 4 → (if i = o then u else blkCells L M c i) = blkCells L M' c i) (hother : ∀ c', c' ≤ M.mem → c' ≠ c → ∀ i, i < M.blk * 4 → blkCells L M c' i = blkCells L M' c' i)
    (e1 : M'.mem = M.mem) (e2 : M'.blk = M.blk) (e3 : M'.pgs = M.pgs) (e4 : M'.siz = M.siz) (e5 : M'.page = M.page) (e9 : M'.gone = M.gone) (e10 : M'.evs = M.evs) (e11 : M'.ops = M.ops) (e12 : M'.off = M.off) :
    NdAt pr (w.setCell ⟨L.cb c, o, none⟩ u) L M' := by
  have hO := Only.of_set w ⟨L.cb c, o, none⟩ u
  obtain ⟨hr, hp, he, hl⟩ := h.others (h.Sb hc) hO
  have ht := h.top
  obtain ⟨m1, m2, m3, m4, m5, m6, m7, m8, m9, m10, m11, m12⟩ := M'
  obtain ⟨n1, n2, n3, n4, n5, n6, n7, n8, n9, n10, n11, n12⟩ := M
  simp only at e1 e2 e3 e4 e5 e9 e10 e11 e12 hcell hother ho
  subst e1 e2 e3 e4 e5 e9 e10 e11 e12
  refine ⟨hok, hO.at ht (h.ne_tag h.tp (h.tb c hc) (by simp)), h.chips.only hO (h.ne_tag h.tc (h.tb c hc) (by simp)), hr _ _ _ h.dead (h.ne_tag h.td (h.tb c hc) (by simp)), fun c' hc' => ?_,
    fun c' b hc' hb => hr _ _ _ (h.pgs c' b hc' hb) (h.ne_tag (h.tg c' b hc' hb) (h.tb c hc) (by simp)), hp, he, h.caps, h.tp, h.td, h.tc, h.tb, h.tg, h.only, hl⟩
  by_cases e : c' = c
  · subst e
    exact ((h.blk c' hc').set u ho hu).congr hcell
  · exact (hr _ _ _ (h.blk c' hc') (h.ne_tag (h.tb c' hc') (h.tb c hc) (by simpa using e))).congr (hother c' hc' e)
theorem upd2_other {α : Type} {f : Nat → Nat → α} {c b x y : Nat} {v : α} (h : ¬ (x = c ∧ y = b)) : upd2 f c b v x y = f x y := if_neg h
theorem NdAt.setNext (h : NdAt pr w L M) {c b : Nat} (hc : c ≤ M.mem) (hb : b < M.blk) (n : Nat) (hn : n ≤ 255) : NdAt pr (w.setCell ⟨L.cb c, b * 4 + 1, none⟩ (.int .i64 n)) L { M with next := upd2 M.next c b n } := by
  refine h.setBlk hc { M with next := upd2 M.next c b n } _ _ (by omega) (nb_i64 _) (h.ok.setNext _ fun x y => ?_) (fun i hi => ?_) (fun c' hc' e i hi => ?_) rfl rfl rfl rfl rfl rfl rfl rfl rfl
  · unfold upd2; split; exact hn; exact h.ok.next x y
  · by_cases e : i = b * 4 + 1
    · subst e; rw [if_pos rfl, blkCells1]; simp [upd2]
    · rw [if_neg e]; unfold blkCells
      by_cases e1 : i % 4 = 1
      · simp only [e1]; rw [upd2_other (by omega)]
      · simp [e1]
  · unfold blkCells; simp only []; rw [upd2_other (by omega)]
theorem NdAt.setErases (h : NdAt pr w L M) {c b : Nat} (hc : c ≤ M.mem) (hb : b < M.blk) (n : Nat) (hn : n ≤ 4294967295 + M.ops) : NdAt pr (w.setCell ⟨L.cb c, b * 4 + 2, none⟩ (.int .i64 n)) L { M with erases := upd2 M.erases c b n } := by
  refine h.setBlk hc { M with erases := upd2 M.erases c b n } _ _ (by omega) (nb_i64 _) (h.ok.setErases _ fun x y => ?_) (fun i hi => ?_) (fun c' hc' e i hi => ?_) rfl rfl rfl rfl rfl rfl rfl rfl rfl
  · unfold upd2; split; exact hn; exact h.ok.erases x y
  · by_cases e : i = b * 4 + 2
    · subst e; rw [if_pos rfl, blkCells2]; simp [upd2]
    · rw [if_neg e]; unfold blkCells
      by_cases e1 : i % 4 = 2
      · simp only [e1]; rw [upd2_other (by omega)]
      · simp [e1]
  · unfold blkCells; simp only []; rw [upd2_other (by omega)]
theorem NdAt.setBad (h : NdAt pr w L M) {c b : Nat} (hc : c ≤ M.mem) (hb : b < M.blk) (x : Bool) : NdAt pr (w.setCell ⟨L.cb c, b * 4 + 3, none⟩ (.bool x)) L { M with bad := upd2 M.bad c b x } := by
  refine h.setBlk hc { M with bad := upd2 M.bad c b x } _ _ (by omega) (nb_bool _) (h.ok.setBad _) (fun i hi => ?_) (fun c' hc' e i hi => ?_) rfl rfl rfl rfl rfl rfl rfl rfl rfl
  · by_cases e : i = b * 4 + 3
    · subst e; rw [if_pos rfl, blkCells3]; simp [upd2]
    · rw [if_neg e]; unfold blkCells
      by_cases e1 : i % 4 = 3
      · simp only [e1]; rw [upd2_other (by omega)]
      · simp [show i % 4 = 0 ∨ i % 4 = 1 ∨ i % 4 = 2 by omega]
        by_cases e2 : i % 4 = 0
        · simp [e2]
        · by_cases e3 : i % 4 = 1
          · simp [e3]
          · simp [show i % 4 = 2 by omega]
  · unfold blkCells; simp only []; rw [upd2_other (by omega)]

/-- the cells of a page are written -/
theorem NdAt.setPg {u : Nat → Value} (h : NdAt pr w L M) {c b p : Nat} (hc : c ≤ M.mem) (hb : b < M.blk) (hp : p < M.pgs) (l : List UInt8) (hl : l = [] ∨ l.length = M.siz + 64) (hO : Only (fun x => x = L.pb c b) w w')
    (hrow : Row w' (L.pb c b) (M.pgs * kk pr) (fun o => if p * kk pr ≤ o ∧ o < p * kk pr + kk pr then u o else L.pv c b o)) (hpg : Pg pr w' u M.siz p l) :
    NdAt pr w' { L with pv := fun x y => if x = c ∧ y = b then (fun o => if p * kk pr ≤ o ∧ o < p * kk pr + kk pr then u o else L.pv c b o) else L.pv x y } { M with page := upd3 M.page c b p l } := by
  obtain ⟨hr, hpg', he, hlt⟩ := h.others (h.Sg hc hb) hO
  refine ⟨h.ok.setPage _ fun x y z => ?_, hO.at h.top (h.ne_tag h.tp (h.tg c b hc hb) (by simp)), h.chips.only hO (h.ne_tag h.tc (h.tg c b hc hb) (by simp)), hr _ _ _ h.dead (h.ne_tag h.td (h.tg c b hc hb) (by simp)),
    fun c' hc' => hr _ _ _ (h.blk c' hc') (h.ne_tag (h.tb c' hc') (h.tg c b hc hb) (by simp)), fun c' b' hc' hb' => ?_, fun c' b' p' hc' hb' hp' => ?_, he, h.caps, h.tp, h.td, h.tc, h.tb, h.tg, h.only, hlt⟩
  · unfold upd3; split; exact hl; exact h.ok.page x y z
  · by_cases e : c' = c ∧ b' = b
    · obtain ⟨rfl, rfl⟩ := e
      simp only [and_self, if_true]; exact hrow
    · simp only [if_neg e]
      exact hr _ _ _ (h.pgs c' b' hc' hb') (h.ne_tag (h.tg c' b' hc' hb') (h.tg c b hc hb) (by simpa using e))
  · by_cases e : c' = c ∧ b' = b
    · obtain ⟨rfl, rfl⟩ := e
      simp only [and_self, if_true]
      by_cases ep : p' = p
      · subst ep
        rw [upd3_same]
        exact hpg.congr fun o h1 h2 => if_pos ⟨h1, h2⟩
      · have : upd3 M.page c' b' p l c' b' p' = M.page c' b' p' := if_neg (by simp [ep])
        rw [this]
        refine (hpg' c' b' p' hc' hb' hp').congr fun o h1 h2 => if_neg fun ⟨h3, h4⟩ => ep ?_
        cases pr <;> simp only [kk] at h1 h2 h3 h4 <;> simp at h1 h2 h3 h4 <;> omega
    · simp only [if_neg e]
      have : upd3 M.page c b p l c' b' p' = M.page c' b' p' := if_neg (by rintro ⟨h1, h2, _⟩; exact e ⟨h1, h2⟩)
      rw [this]
      exact hpg' c' b' p' hc' hb' hp'
end
end Go.Proofs.Ytphnjiokihbhnaa
