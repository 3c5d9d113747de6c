/- Plain laws: chips on which anything was done can be dumped and loaded. -/
--only r2
import Derived.Test.YtphnjiokihbhnaaTwo
import Derived.Test.YtphnjiokihbhnaaNandLaw
import Derived.Test.YtphnjiokihbhnaaLoadInv
/- Plain laws: what 'done' leaves as it was; operations counted. -/
namespace Go.Proofs.Ytphnjiokihbhnaa
set_option linter.unusedVariables false
set_option linter.unusedSimpArgs false
open Go.RowKit

theorem begin_count (M : Nd) (c b : Int) : (M.begin c b).1.ops ≤ M.ops + 1 := by
  unfold Nd.begin
  split
  · exact Nat.le_succ _
  · split
    · exact Nat.le_succ _
    · have hd : ∀ (K : Nd) x, (Nd.die K x).ops = K.ops := fun K x => by unfold Nd.die; split <;> rfl
      simp only []
      split
      · split
        · exact Nat.le_of_eq (hd _ _)
        · exact Nat.le_of_eq (hd _ _)
      · exact Nat.le_of_eq (hd _ _)
theorem done_count (M : Nd) (o : POp) : (M.done o).ops ≤ M.ops + 1 := by
  have hb := begin_count M o.chip o.block
  unfold Nd.done
  split
  · unfold Nd.read
    generalize M.begin o.chip o.block = R at hb
    obtain ⟨M1, x, e⟩ := R
    simp only at hb ⊢
    repeat' split
    all_goals exact hb
  · split
    · unfold Nd.program
      generalize M.begin o.chip o.block = R at hb
      obtain ⟨M1, x, e⟩ := R
      simp only at hb ⊢
      repeat' split
      all_goals exact hb
    · split
      · unfold Nd.erase
        generalize M.begin o.chip o.block = R at hb
        obtain ⟨M1, x, e⟩ := R
        simp only at hb ⊢
        repeat' split
        all_goals exact hb
      · split
        · exact Nat.le_succ _
        · split
          · unfold Nd.kill; split <;> exact Nat.le_succ _
          · exact Nat.le_succ _

theorem done_shape (M : Nd) (o : POp) : (M.done o).mem = M.mem ∧ (M.done o).blk = M.blk := by
  obtain ⟨h1, h2, -⟩ := begin_shape M o.chip o.block
  unfold Nd.done
  split
  · unfold Nd.read
    generalize M.begin o.chip o.block = R at h1 h2
    obtain ⟨M1, x, e⟩ := R
    simp only at h1 h2 ⊢
    repeat' split
    all_goals exact ⟨h1, h2⟩
  · split
    · unfold Nd.program
      generalize M.begin o.chip o.block = R at h1 h2
      obtain ⟨M1, x, e⟩ := R
      simp only at h1 h2 ⊢
      repeat' split
      all_goals exact ⟨h1, h2⟩
    · split
      · unfold Nd.erase
        generalize M.begin o.chip o.block = R at h1 h2
        obtain ⟨M1, x, e⟩ := R
        simp only at h1 h2 ⊢
        repeat' split
        all_goals exact ⟨h1, h2⟩
      · split
        · exact ⟨rfl, rfl⟩
        · split
          · unfold Nd.kill; split <;> exact ⟨rfl, rfl⟩
          · exact ⟨rfl, rfl⟩

/-- a page that was programmed, of chips to which nothing comes -/
structure Kept (M : Nd) (c b : Nat) (l : List UInt8) (n : Nat) : Prop where
  evs : M.evs = []
  off : M.off = false
  mem : M.mem = 4
  blk : M.blk = 16
  pgs : M.pgs = 4
  siz : M.siz = 256
  gone : M.gone c = false
  page : M.page c b 0 = l
  ops : M.ops ≤ n
theorem Kept.begin {M : Nd} {c b n : Nat} {l : List UInt8} (h : Kept M c b l n) (c' b' : Int) : ∃ M1 e, M.begin c' b' = (M1, .zero, e) ∧ Kept M1 c b l (n + 1) ∧ (e = 0 → M.inside c' b') := by
  have hc : comesOf M.evs (M.ops + 1) = .zero := by rw [h.evs]; rfl
  have hn := h.ops
  have h1 : Kept { M with ops := M.ops + 1 } c b l (n + 1) := ⟨h.evs, h.off, h.mem, h.blk, h.pgs, h.siz, h.gone, h.page, by show M.ops + 1 ≤ n + 1; omega⟩
  unfold Nd.begin
  rw [if_neg (by simp [h.off])]
  by_cases hi : M.inside c' b'
  · rw [if_neg (by simp [hi])]
    simp only [hc]
    have hd : Nd.die { M with ops := M.ops + 1 } .zero = { M with ops := M.ops + 1 } := if_neg (by simp [Ev.zero])
    rw [hd]
    by_cases hg : M.gone c'.toNat = true
    · rw [if_pos hg, if_neg (by simp [Ev.zero])]
      exact ⟨_, _, rfl, h1, fun _ => hi⟩
    · rw [if_neg hg]
      exact ⟨_, _, rfl, h1, fun _ => hi⟩
  · rw [if_pos hi]
    exact ⟨_, _, rfl, ⟨h.evs, h.off, h.mem, h.blk, h.pgs, h.siz, h.gone, h.page, by omega⟩, fun e => by cases e⟩
theorem Kept.lay {M : Nd} {c b n : Nat} {l : List UInt8} (h : Kept M c b l n) {c' b' p : Nat} (hne : ¬ (c' = c ∧ b' = b)) (d : List UInt8) : Kept (M.lay c' b' p d) c b l n :=
  ⟨h.evs, h.off, h.mem, h.blk, h.pgs, h.siz, h.gone, by show upd3 M.page c' b' p d c b 0 = l; unfold upd3; rw [if_neg (by omega)]; exact h.page, h.ops⟩
theorem Kept.fill {M : Nd} {c b n : Nat} {l : List UInt8} (h : Kept M c b l n) {c' b' : Nat} (hne : ¬ (c' = c ∧ b' = b)) (k : Nat) (d : List UInt8) : Kept ((M.fill c' b' k d).count c' b') c b l n :=
  ⟨h.evs, h.off, h.mem, h.blk, h.pgs, h.siz, h.gone, by show (if c = c' ∧ b = b' ∧ 0 < M.pgs then d else M.page c b 0) = l; rw [if_neg (by omega)]; exact h.page, h.ops⟩
theorem Kept.done {M : Nd} {c b n : Nat} {l : List UInt8} (h : Kept M c b l n) (o : POp) (h1 : ¬ (o.chip = c ∧ o.block = b)) (h2 : ¬ (o.kind = 5 ∧ o.chip = c)) : Kept (M.done o) c b l (n + 1) := by
  obtain ⟨M1, e, hb, hk, hi⟩ := h.begin o.chip o.block
  have hn := h.ops
  have hsame : Kept M c b l (n + 1) := ⟨h.evs, h.off, h.mem, h.blk, h.pgs, h.siz, h.gone, h.page, by omega⟩
  have hne : e = 0 → ¬ (o.chip.toNat = c ∧ o.block.toNat = b) := fun he hh => by
    obtain ⟨i1, i2, i3, i4⟩ := hi he
    omega
  unfold Nd.done
  split
  · unfold Nd.read
    rw [hb]
    simp only [Ev.zero, show ((0 : Int) = 2) = False from by simp, show ((0 : Int) = 1) = False from by simp, if_false, or_self, ne_eq, not_false_eq_true, and_true]
    repeat' split
    all_goals exact hk
  · split
    · unfold Nd.program
      rw [hb]
      simp only [Ev.zero, show ((0 : Int) = 2) = False from by simp, show ((0 : Int) = 1) = False from by simp, if_false, or_self, ne_eq, not_false_eq_true, and_true]
      by_cases he : e = 0
      · rw [if_neg (by simp [he])]
        repeat' split
        all_goals first | exact hk | exact hk.lay (hne he) _
      · rw [if_pos he]; exact hk
    · split
      · unfold Nd.erase
        rw [hb]
        simp only [Ev.zero, show ((0 : Int) = 2) = False from by simp, show ((0 : Int) = 1) = False from by simp, if_false, or_self, ne_eq, not_false_eq_true, and_true]
        by_cases he : e = 0
        · rw [if_neg (by simp [he])]
          split
          · exact hk
          · exact hk.fill (hne he) _ _
        · rw [if_pos he]; exact hk
      · split
        · exact ⟨h.evs, rfl, h.mem, h.blk, h.pgs, h.siz, h.gone, h.page, by show M.ops ≤ n + 1; omega⟩
        · split
          · rename_i hk5
            unfold Nd.kill
            split
            · rename_i hin
              refine ⟨h.evs, h.off, h.mem, h.blk, h.pgs, h.siz, ?_, h.page, by show M.ops ≤ n + 1; omega⟩
              show upd1 M.gone o.chip.toNat true c = false
              unfold upd1
              rw [if_neg (fun e => h2 ⟨hk5, by omega⟩)]
              exact h.gone
            · exact hsame
          · exact hsame
end Go.Proofs.Ytphnjiokihbhnaa
namespace Go.Proofs.Ytphnjiokihbhnaa
set_option linter.unusedVariables false
set_option linter.unusedSimpArgs false
open Go.RowKit

/-- what holds of chips behind n operations -/
structure Sound (M : Nd) (n : Nat) : Prop where
  geo : geoOk M.mem M.blk M.pgs M.siz
  page : ∀ c b p, M.page c b p = [] ∨ (M.page c b p).length = M.siz + 64
  next : ∀ c b, M.next c b ≤ M.pgs
  low : ∀ c b p, p < M.pgs → M.page c b p ≠ [] → p < M.next c b
  erases : ∀ c b, M.erases c b ≤ n
  ops : M.ops ≤ n
section
variable {M M' : Nd} {n n' : Nat}
theorem Sound.like (h : Sound M n) (h1 : M'.mem = M.mem) (h2 : M'.blk = M.blk) (h3 : M'.pgs = M.pgs) (h4 : M'.siz = M.siz) (h5 : M'.page = M.page) (h6 : M'.next = M.next) (h7 : M'.erases = M.erases) (hn : n ≤ n') (ho : M'.ops ≤ n') : Sound M' n' :=
  ⟨by rw [h1, h2, h3, h4]; exact h.geo, fun c b p => by rw [h5, h4]; exact h.page c b p, fun c b => by rw [h6, h3]; exact h.next c b, fun c b p hp hq => by rw [h5] at hq; rw [h6]; exact h.low c b p (by rw [← h3]; exact hp) hq, fun c b => by rw [h7]; have := h.erases c b; omega, ho⟩
theorem Sound.fresh {c b p s : Nat} {bad : Nat → Nat → Bool} {evs : List Ev} (h : geoOk c b p s) : Sound (Nd.fresh c b p s bad evs) 0 :=
  ⟨h, fun _ _ _ => .inl rfl, fun _ _ => Nat.zero_le _, fun c b p _ h => absurd rfl h, fun _ _ => Nat.le_refl _, Nat.le_refl _⟩
theorem Sound.lay (h : Sound M n) (c b p : Nat) (l : List UInt8) (hp : p < M.pgs) (hn : p = M.next c b) (hl : l.length = M.siz + 64) : Sound (M.lay c b p l) n := by
  refine ⟨h.geo, fun c' b' p' => ?_, fun c' b' => ?_, fun c' b' p' hp' hq => ?_, h.erases, h.ops⟩
  · show upd3 M.page c b p l c' b' p' = [] ∨ (upd3 M.page c b p l c' b' p').length = M.siz + 64
    unfold upd3
    split
    · exact .inr hl
    · exact h.page c' b' p'
  · show upd2 M.next c b (M.next c b + 1) c' b' ≤ M.pgs
    unfold upd2
    split
    · omega
    · exact h.next c' b'
  · have hp' : p' < M.pgs := hp'
    have hq : upd3 M.page c b p l c' b' p' ≠ [] := hq
    show p' < upd2 M.next c b (M.next c b + 1) c' b'
    unfold upd2
    unfold upd3 at hq
    split
    · rename_i e
      split at hq
      · omega
      · have := h.low c' b' p' hp' hq
        rw [e.1, e.2] at this
        omega
    · rename_i e
      rw [if_neg (fun h => e ⟨h.1, h.2.1⟩)] at hq
      exact h.low c' b' p' hp' hq
theorem Sound.fill (h : Sound M n) (c b k : Nat) (l : List UInt8) (hk : k = M.pgs ∧ l.length = M.siz + 64 ∨ k = 0 ∧ l = []) : Sound (M.fill c b k l) n := by
  refine ⟨h.geo, fun c' b' p' => ?_, fun c' b' => ?_, fun c' b' p' hp' hq => ?_, h.erases, h.ops⟩
  · show (if c' = c ∧ b' = b ∧ p' < M.pgs then l else M.page c' b' p') = [] ∨ (if c' = c ∧ b' = b ∧ p' < M.pgs then l else M.page c' b' p').length = M.siz + 64
    split
    · exact hk.elim (fun h => .inr h.2) (fun h => .inl h.2)
    · exact h.page c' b' p'
  · show upd2 M.next c b k c' b' ≤ M.pgs
    unfold upd2
    split
    · omega
    · exact h.next c' b'
  · have hp' : p' < M.pgs := hp'
    have hq : (if c' = c ∧ b' = b ∧ p' < M.pgs then l else M.page c' b' p') ≠ [] := hq
    show p' < upd2 M.next c b k c' b'
    unfold upd2
    split
    · rename_i e
      rw [if_pos ⟨e.1, e.2, hp'⟩] at hq
      rcases hk with hk | hk
      · omega
      · exact absurd hk.2 hq
    · rename_i e
      rw [if_neg (fun h => e ⟨h.1, h.2.1⟩)] at hq
      exact h.low c' b' p' hp' hq
theorem Sound.count (h : Sound M n) (c b : Nat) (hn : ∀ c b, M.erases c b + 1 ≤ n') (hm : n ≤ n') : Sound (M.count c b) n' := by
  refine ⟨h.geo, h.page, h.next, h.low, fun c' b' => ?_, by have := h.ops; show M.ops ≤ n'; omega⟩
  show upd2 M.erases c b (M.erases c b + 1) c' b' ≤ n'
  unfold upd2
  split
  · exact hn c b
  · have := h.erases c' b'; omega
theorem Sound.spoil (h : Sound M n) (c b : Nat) : Sound (M.spoil c b) n := h.like rfl rfl rfl rfl rfl rfl rfl (Nat.le_refl _) h.ops
theorem Sound.off (h : Sound M n) (o : Bool) : Sound { M with off := o } n := h.like rfl rfl rfl rfl rfl rfl rfl (Nat.le_refl _) h.ops
theorem Sound.done (h : Sound M n) (o : POp) : Sound (M.done o) (n + 1) := by
  have hn := h.ops
  have hb := begin_count M o.chip o.block
  obtain ⟨s1, s2, s3, s4, s5, s6, s7, s8, s9⟩ := begin_shape M o.chip o.block
  have hin := begin_zero M o.chip o.block
  have hs : Sound (M.begin o.chip o.block).1 (n + 1) := h.like s1 s2 s3 s4 s5 s6 s7 (by omega) (by omega)
  have hes : ∀ c b, (M.begin o.chip o.block).1.erases c b ≤ n := fun c b => by rw [s7]; exact h.erases c b
  have hsame : Sound M (n + 1) := h.like rfl rfl rfl rfl rfl rfl rfl (by omega) (by omega)
  clear s1 s2 s3 s4 s5 s6 s7 s8 s9 hb
  unfold Nd.done
  split
  · unfold Nd.read
    generalize M.begin o.chip o.block = R at hs hes hin
    obtain ⟨M1, x, e⟩ := R
    simp only at hs hes hin ⊢
    repeat' split
    all_goals first | exact hs | exact hs.off _
  · split
    · unfold Nd.program
      generalize M.begin o.chip o.block = R at hs hes hin
      obtain ⟨M1, x, e⟩ := R
      simp only at hs hes hin ⊢
      by_cases he : e ≠ 0
      · rw [if_pos he]; exact hs
      · rw [if_neg he]
        by_cases hp : M1.pageIn o.page ∧ o.bytes.length = M1.siz ∧ o.beside.length = 64
        · rw [if_neg (fun h => h hp)]
          obtain ⟨⟨p1, p2⟩, p3, p4⟩ := hp
          have hlt : o.page.toNat < M1.pgs := by omega
          by_cases hk : x.kind = 2
          · rw [if_pos hk]
            by_cases hq : o.page = (M1.next o.chip.toNat o.block.toNat : Int) ∧ M1.bad o.chip.toNat o.block.toNat = false
            · rw [if_pos hq]
              exact (hs.off true).lay _ _ _ _ hlt (by show o.page.toNat = M1.next o.chip.toNat o.block.toNat; omega) (leftOf_length _ _)
            · rw [if_neg hq]; exact hs.off _
          · rw [if_neg hk]
            by_cases hbd : M1.bad o.chip.toNat o.block.toNat = true
            · rw [if_pos hbd]; exact hs
            · rw [if_neg hbd]
              by_cases hq : o.page ≠ (M1.next o.chip.toNat o.block.toNat : Int)
              · rw [if_pos hq]; exact hs
              · rw [if_neg hq]
                have hq : o.page = (M1.next o.chip.toNat o.block.toNat : Int) := by omega
                have hq' : o.page.toNat = M1.next o.chip.toNat o.block.toNat := by omega
                by_cases hf : x.kind = 1
                · rw [if_pos hf]; exact (hs.lay _ _ _ _ hlt hq' (leftOf_length _ _)).spoil _ _
                · rw [if_neg hf]; exact hs.lay _ _ _ _ hlt hq' (by rw [List.length_append]; omega)
        · rw [if_pos hp]
          split
          · exact hs.off _
          · exact hs
    · split
      · unfold Nd.erase
        generalize M.begin o.chip o.block = R at hs hes hin
        obtain ⟨M1, x, e⟩ := R
        simp only at hs hes hin ⊢
        by_cases he : e ≠ 0
        · rw [if_pos he]; exact hs
        · rw [if_neg he]
          split
          · exact hs
          · split
            · have h2 : Sound (if M1.bad o.chip.toNat o.block.toNat = true then M1 else M1.fill o.chip.toNat o.block.toNat M1.pgs (leftOf M1.siz x.left)) (n + 1) := by
                split
                · exact hs
                · exact hs.fill _ _ _ _ (.inl ⟨rfl, leftOf_length _ _⟩)
              split
              · exact h2.spoil _ _
              · exact h2.off _
            · exact (hs.fill _ _ _ _ (.inr ⟨rfl, rfl⟩)).count _ _ (fun c b => by have := hes c b; show M1.erases c b + 1 ≤ n + 1; omega) (Nat.le_refl _)
      · split
        · exact hsame.off _
        · split
          · unfold Nd.kill
            split
            · exact hsame.like rfl rfl rfl rfl rfl rfl rfl (Nat.le_refl _) hsame.ops
            · exact hsame
          · exact hsame
theorem Sound.chips (h : Sound M n) (hn : n < 4294967296) : IsChips M :=
  ⟨h.geo, fun c b _ _ => ⟨by simp, fun x hx => by obtain ⟨p, _, rfl⟩ := List.mem_map.mp hx; exact h.page c b p, h.next c b, by have := h.erases c b; omega, fun q hq hne => by
    simp only [List.length_map, List.length_range] at hq
    simp only [List.getElem_map, List.getElem_range] at hne
    exact h.low c b q hq hne⟩⟩
end
end Go.Proofs.Ytphnjiokihbhnaa
