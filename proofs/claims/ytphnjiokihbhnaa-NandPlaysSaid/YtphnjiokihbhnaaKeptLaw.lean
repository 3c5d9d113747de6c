/- Plain laws: what 'done' leaves as it was; operations counted. -/
--only r2
import Derived.Test.YtphnjiokihbhnaaTwo
import Derived.Test.YtphnjiokihbhnaaNandLaw
namespace Go.Proofs.Ytphnjiokihbhnaa
set_option linter.unusedVariables false
set_option linter.unusedSimpArgs false
open Go.RowKit

theorem begin_count (M : Nd) (c b : Int) : (M.begin c b).1.ops ≤ M.ops + 1 := by
  unfold Nd.begin
  split
  · exact Nat.le_succ _
  · split
    · exact Nat.le_succ _
    · have hd : ∀ (K : Nd) x, (Nd.die K x).ops = K.ops := fun K x => by unfold Nd.die; split <;> rfl
      simp only []
      split
      · split
        · exact Nat.le_of_eq (hd _ _)
        · exact Nat.le_of_eq (hd _ _)
      · exact Nat.le_of_eq (hd _ _)
theorem done_count (M : Nd) (o : POp) : (M.done o).ops ≤ M.ops + 1 := by
  have hb := begin_count M o.chip o.block
  unfold Nd.done
  split
  · unfold Nd.read
    generalize M.begin o.chip o.block = R at hb
    obtain ⟨M1, x, e⟩ := R
    simp only at hb ⊢
    repeat' split
    all_goals exact hb
  · split
    · unfold Nd.program
      generalize M.begin o.chip o.block = R at hb
      obtain ⟨M1, x, e⟩ := R
      simp only at hb ⊢
      repeat' split
      all_goals exact hb
    · split
      · unfold Nd.erase
        generalize M.begin o.chip o.block = R at hb
        obtain ⟨M1, x, e⟩ := R
        simp only at hb ⊢
        repeat' split
        all_goals exact hb
      · split
        · exact Nat.le_succ _
        · split
          · unfold Nd.kill; split <;> exact Nat.le_succ _
          · exact Nat.le_succ _

theorem done_shape (M : Nd) (o : POp) : (M.done o).mem = M.mem ∧ (M.done o).blk = M.blk := by
  obtain ⟨h1, h2, -⟩ := begin_shape M o.chip o.block
  unfold Nd.done
  split
  · unfold Nd.read
    generalize M.begin o.chip o.block = R at h1 h2
    obtain ⟨M1, x, e⟩ := R
    simp only at h1 h2 ⊢
    repeat' split
    all_goals exact ⟨h1, h2⟩
  · split
    · unfold Nd.program
      generalize M.begin o.chip o.block = R at h1 h2
      obtain ⟨M1, x, e⟩ := R
      simp only at h1 h2 ⊢
      repeat' split
      all_goals exact ⟨h1, h2⟩
    · split
      · unfold Nd.erase
        generalize M.begin o.chip o.block = R at h1 h2
        obtain ⟨M1, x, e⟩ := R
        simp only at h1 h2 ⊢
        repeat' split
        all_goals exact ⟨h1, h2⟩
      · split
        · exact ⟨rfl, rfl⟩
        · split
          · unfold Nd.kill; split <;> exact ⟨rfl, rfl⟩
          · exact ⟨rfl, rfl⟩

/-- a page that was programmed, of chips to which nothing comes -/
structure Kept (M : Nd) (c b : Nat) (l : List UInt8) (n : Nat) : Prop where
  evs : M.evs = []
  off : M.off = false
  mem : M.mem = 4
  blk : M.blk = 16
  pgs : M.pgs = 4
  siz : M.siz = 256
  gone : M.gone c = false
  page : M.page c b 0 = l
  ops : M.ops ≤ n
theorem Kept.begin {M : Nd} {c b n : Nat} {l : List UInt8} (h : Kept M c b l n) (c' b' : Int) : ∃ M1 e, M.begin c' b' = (M1, .zero, e) ∧ Kept M1 c b l (n + 1) ∧ (e = 0 → M.inside c' b') := by
  have hc : comesOf M.evs (M.ops + 1) = .zero := by rw [h.evs]; rfl
  have hn := h.ops
  have h1 : Kept { M with ops := M.ops + 1 } c b l (n + 1) := ⟨h.evs, h.off, h.mem, h.blk, h.pgs, h.siz, h.gone, h.page, by show M.ops + 1 ≤ n + 1; omega⟩
  unfold Nd.begin
  rw [if_neg (by simp [h.off])]
  by_cases hi : M.inside c' b'
  · rw [if_neg (by simp [hi])]
    simp only [hc]
    have hd : Nd.die { M with ops := M.ops + 1 } .zero = { M with ops := M.ops + 1 } := if_neg (by simp [Ev.zero])
    rw [hd]
    by_cases hg : M.gone c'.toNat = true
    · rw [if_pos hg, if_neg (by simp [Ev.zero])]
      exact ⟨_, _, rfl, h1, fun _ => hi⟩
    · rw [if_neg hg]
      exact ⟨_, _, rfl, h1, fun _ => hi⟩
  · rw [if_pos hi]
    exact ⟨_, _, rfl, ⟨h.evs, h.off, h.mem, h.blk, h.pgs, h.siz, h.gone, h.page, by omega⟩, fun e => by cases e⟩
theorem Kept.lay {M : Nd} {c b n : Nat} {l : List UInt8} (h : Kept M c b l n) {c' b' p : Nat} (hne : ¬ (c' = c ∧ b' = b)) (d : List UInt8) : Kept (M.lay c' b' p d) c b l n :=
  ⟨h.evs, h.off, h.mem, h.blk, h.pgs, h.siz, h.gone, by show upd3 M.page c' b' p d c b 0 = l; unfold upd3; rw [if_neg (by omega)]; exact h.page, h.ops⟩
theorem Kept.fill {M : Nd} {c b n : Nat} {l : List UInt8} (h : Kept M c b l n) {c' b' : Nat} (hne : ¬ (c' = c ∧ b' = b)) (k : Nat) (d : List UInt8) : Kept ((M.fill c' b' k d).count c' b') c b l n :=
  ⟨h.evs, h.off, h.mem, h.blk, h.pgs, h.siz, h.gone, by show (if c = c' ∧ b = b' ∧ 0 < M.pgs then d else M.page c b 0) = l; rw [if_neg (by omega)]; exact h.page, h.ops⟩
theorem Kept.done {M : Nd} {c b n : Nat} {l : List UInt8} (h : Kept M c b l n) (o : POp) (h1 : ¬ (o.chip = c ∧ o.block = b)) (h2 : ¬ (o.kind = 5 ∧ o.chip = c)) : Kept (M.done o) c b l (n + 1) := by
  obtain ⟨M1, e, hb, hk, hi⟩ := h.begin o.chip o.block
  have hn := h.ops
  have hsame : Kept M c b l (n + 1) := ⟨h.evs, h.off, h.mem, h.blk, h.pgs, h.siz, h.gone, h.page, by omega⟩
  have hne : e = 0 → ¬ (o.chip.toNat = c ∧ o.block.toNat = b) := fun he hh => by
    obtain ⟨i1, i2, i3, i4⟩ := hi he
    omega
  unfold Nd.done
  split
  · unfold Nd.read
    rw [hb]
    simp only [Ev.zero, show ((0 : Int) = 2) = False from by simp, show ((0 : Int) = 1) = False from by simp, if_false, or_self, ne_eq, not_false_eq_true, and_true]
    repeat' split
    all_goals exact hk
  · split
    · unfold Nd.program
      rw [hb]
      simp only [Ev.zero, show ((0 : Int) = 2) = False from by simp, show ((0 : Int) = 1) = False from by simp, if_false, or_self, ne_eq, not_false_eq_true, and_true]
      by_cases he : e = 0
      · rw [if_neg (by simp [he])]
        repeat' split
        all_goals first | exact hk | exact hk.lay (hne he) _
      · rw [if_pos he]; exact hk
    · split
      · unfold Nd.erase
        rw [hb]
        simp only [Ev.zero, show ((0 : Int) = 2) = False from by simp, show ((0 : Int) = 1) = False from by simp, if_false, or_self, ne_eq, not_false_eq_true, and_true]
        by_cases he : e = 0
        · rw [if_neg (by simp [he])]
          split
          · exact hk
          · exact hk.fill (hne he) _ _
        · rw [if_pos he]; exact hk
      · split
        · exact ⟨h.evs, rfl, h.mem, h.blk, h.pgs, h.siz, h.gone, h.page, by show M.ops ≤ n + 1; omega⟩
        · split
          · rename_i hk5
            unfold Nd.kill
            split
            · rename_i hin
              refine ⟨h.evs, h.off, h.mem, h.blk, h.pgs, h.siz, ?_, h.page, by show M.ops ≤ n + 1; omega⟩
              show upd1 M.gone o.chip.toNat true c = false
              unfold upd1
              rw [if_neg (fun e => h2 ⟨hk5, by omega⟩)]
              exact h.gone
            · exact hsame
          · exact hsame
end Go.Proofs.Ytphnjiokihbhnaa
