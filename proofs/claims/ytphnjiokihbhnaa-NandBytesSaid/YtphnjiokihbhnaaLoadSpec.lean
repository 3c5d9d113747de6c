/- Bytes as chips, plainly: a block's bytes tell where they end. -/
--only r2
import Derived.Test.YtphnjiokihbhnaaDumpKit
import Derived.Test.YtphnjiokihbhnaaReader
namespace Go.Proofs.Ytphnjiokihbhnaa
set_option linter.unusedVariables false
set_option linter.unusedSimpArgs false
open Go.RowKit

/-- what a block is to be, so that its bytes are loaded -/
structure IsBlk (siz pgs nx er : Nat) (pl : List (List UInt8)) : Prop where
  len : pl.length = pgs
  page : ∀ x ∈ pl, x = [] ∨ x.length = siz + 64
  hnx : nx ≤ pgs
  her : er < 4294967296
  low : ∀ (q : Nat) (h : q < pl.length), pl[q] ≠ [] → q < nx
def blkBytes (bd : Bool) (nx er : Nat) (pl : List (List UInt8)) : List UInt8 := leAll 1 [bitN bd, nx] ++ leAll 4 [er] ++ pl.flatMap pageB
theorem pagesB_list (M : Nd) (c b k : Nat) : pagesB M c b k = ((List.range k).map (M.page c b)).flatMap pageB := by
  unfold pagesB; rw [List.flatMap_map]
theorem blockB_list (M : Nd) (c b : Nat) (h : M.erases c b < 4294967296) : blockB M c b = blkBytes (M.bad c b) (M.next c b) (M.erases c b) ((List.range M.pgs).map (M.page c b)) := by
  unfold blockB blkBytes
  rw [pagesB_list, Nat.mod_eq_of_lt h]
theorem pageB_nil : pageB [] = [0] := by rfl
theorem pageB_cons (x : List UInt8) (h : x ≠ []) : pageB x = 1 :: x := by
  unfold pageB
  rw [decide_eq_true h]; rfl
/-- the bytes of a block, one behind the other -/
theorem blkBytes_eq (bd : Bool) (nx er : Nat) (pl : List (List UInt8)) :
    blkBytes bd nx er pl = UInt8.ofNat (bitN bd % 256) :: UInt8.ofNat (nx % 256) :: (leBytes 4 er ++ pl.flatMap pageB) := by
  simp [blkBytes, leAll, leBytes]
theorem leNum_one (c : UInt8) : leNum [c] = c.toNat := by simp [leNum]
theorem leNum_le (n v : Nat) (h : v < 256 ^ n) : leNum (leBytes n v) = v := by
  induction n generalizing v with
  | zero => simp only [Nat.pow_zero] at h; simp [leBytes, leNum]; omega
  | succ n ih =>
    rw [Nat.pow_succ] at h
    simp only [leBytes, leNum]
    rw [ih (v / 256) (by omega), u8_mod]
    omega
theorem le_leNum (l : List UInt8) : leBytes l.length (leNum l) = l := by
  induction l with
  | nil => rfl
  | cons c l ih =>
    have hc := c.toNat_lt
    simp only [List.length_cons, leBytes, leNum]
    have h1 : (c.toNat + 256 * leNum l) % 256 = c.toNat := by omega
    have h2 : (c.toNat + 256 * leNum l) / 256 = leNum l := by omega
    rw [h1, h2, ih]
    congr 1
    simp
theorem drop_cons {l : List UInt8} {k : Nat} {x : UInt8} {r : List UInt8} (h : l.drop k = x :: r) : k < l.length ∧ (l.drop k).take 1 = [x] ∧ l.drop (k + 1) = r := by
  have hlt : k < l.length := by
    by_cases hh : k < l.length
    · exact hh
    · rw [List.drop_of_length_le (by omega)] at h; cases h
  refine ⟨hlt, by rw [h]; rfl, ?_⟩
  rw [← List.drop_drop, h]; rfl
theorem drop_app {l : List UInt8} {k : Nat} {x r : List UInt8} (h : l.drop k = x ++ r) : (x ≠ [] → k + x.length ≤ l.length) ∧ (l.drop k).take x.length = x ∧ l.drop (k + x.length) = r := by
  refine ⟨fun hx => ?_, by rw [h]; simp, by rw [← List.drop_drop, h]; simp⟩
  have := congrArg List.length h
  rw [List.length_drop, List.length_append] at this
  have hp : 0 < x.length := List.length_pos_iff.mpr hx
  omega
/-- a byte that was read -/
theorem read_byte {l : List UInt8} {k : Nat} (h : k < l.length) : l.take (k + 1) = l.take k ++ leAll 1 [leNum ((l.drop k).take 1)] ∧ leNum ((l.drop k).take 1) < 256 := by
  have h1 : (l.drop k).take 1 = [l[k]] := by
    rw [List.drop_eq_getElem_cons h]; rfl
  rw [h1, leNum_one]
  refine ⟨?_, (l[k]).toNat_lt⟩
  rw [List.take_succ_eq_append_getElem h]
  congr 1
  simp [leAll, leBytes]
theorem read_some {l : List UInt8} {k n : Nat} (h : k + n ≤ l.length) : l.take (k + n) = l.take k ++ (l.drop k).take n := by
  rw [List.take_add]
theorem read_word {l : List UInt8} {k : Nat} (h : k + 4 ≤ l.length) : l.take (k + 4) = l.take k ++ leAll 4 [leNum ((l.drop k).take 4)] ∧ leNum ((l.drop k).take 4) < 4294967296 := by
  have hl : ((l.drop k).take 4).length = 4 := by simp; omega
  have h1 := le_leNum ((l.drop k).take 4)
  rw [hl] at h1
  have h2 := leNum_lt ((l.drop k).take 4)
  rw [hl] at h2
  refine ⟨?_, h2⟩
  rw [read_some h]
  congr 1
  simp only [leAll, List.flatMap_cons, List.flatMap_nil, List.append_nil]
  exact h1.symm

/-- what is left of a block's bytes behind its first pages -/
def Left (l : List UInt8) (k siz pgs B N kp p : Nat) : Prop := ∀ bd nx er pl suf, IsBlk siz pgs nx er pl → l.drop k = blkBytes bd nx er pl ++ suf → bitN bd = B ∧ nx = N ∧ l.drop kp = (pl.drop p).flatMap pageB ++ suf
/-- no block begins here -/
def NoBlk (l : List UInt8) (k siz pgs : Nat) : Prop := ∀ bd nx er pl suf, IsBlk siz pgs nx er pl → l.drop k ≠ blkBytes bd nx er pl ++ suf
theorem blkBytes_len (bd : Bool) (nx er : Nat) (pl : List (List UInt8)) : 6 ≤ (blkBytes bd nx er pl).length := by
  rw [blkBytes_eq]; simp [leBytes_length]
theorem noBlk_short {l : List UInt8} {k siz pgs : Nat} (h : ¬ k + 6 ≤ l.length) : NoBlk l k siz pgs := fun bd nx er pl suf hb e => by
  have := congrArg List.length e
  rw [List.length_drop, List.length_append] at this
  have := blkBytes_len bd nx er pl
  omega
theorem left_head {l : List UInt8} {k siz pgs : Nat} (hp : pgs ≤ 255) (h : k + 6 ≤ l.length) :
    Left l k siz pgs (leNum ((l.drop k).take 1)) (leNum ((l.drop (k + 1)).take 1)) (k + 6) 0 := fun bd nx er pl suf hb e => by
  rw [blkBytes_eq] at e
  simp only [List.cons_append, List.append_assoc] at e
  obtain ⟨-, h2, h3⟩ := drop_cons e
  obtain ⟨-, h5, h6⟩ := drop_cons h3
  have h7 := (drop_app h6).2.2
  rw [leBytes_length] at h7
  have hn := hb.hnx
  rw [h2, h5, leNum_one, leNum_one, u8_mod, u8_mod]
  have := bitN_lt bd
  exact ⟨by omega, by omega, h7⟩
section
variable {l : List UInt8} {k siz pgs B N kp p : Nat}
theorem left_bad (h : Left l k siz pgs B N kp p) (hB : 1 < B) : NoBlk l k siz pgs := fun bd nx er pl suf hb e => by
  have := (h bd nx er pl suf hb e).1
  cases bd <;> simp [bitN] at this <;> omega
theorem left_next (h : Left l k siz pgs B N kp p) (hB : pgs < N) : NoBlk l k siz pgs := fun bd nx er pl suf hb e => by
  have := (h bd nx er pl suf hb e).2.1
  have := hb.hnx
  omega
/-- the next page, as its bytes stand there -/
theorem left_page (h : Left l k siz pgs B N kp p) (hp : p < pgs) {bd nx er pl suf} (hb : IsBlk siz pgs nx er pl) (e : l.drop k = blkBytes bd nx er pl ++ suf) :
    ∃ x, (x = [] ∨ x.length = siz + 64) ∧ (x ≠ [] → p < N) ∧ l.drop kp = pageB x ++ ((pl.drop (p + 1)).flatMap pageB ++ suf) := by
  obtain ⟨-, rfl, h3⟩ := h bd nx er pl suf hb e
  have hlt : p < pl.length := by rw [hb.len]; exact hp
  refine ⟨pl[p], hb.page _ (List.getElem_mem hlt), hb.low p hlt, ?_⟩
  rw [h3, List.drop_eq_getElem_cons hlt, List.flatMap_cons, List.append_assoc]
theorem left_short (h : Left l k siz pgs B N kp p) (hp : p < pgs) (hs : ¬ kp < l.length) : NoBlk l k siz pgs := fun bd nx er pl suf hb e => by
  obtain ⟨x, -, -, h3⟩ := left_page h hp hb e
  by_cases hx : x = []
  · rw [hx, pageB_nil] at h3; exact hs (drop_cons h3).1
  · rw [pageB_cons x hx] at h3; exact hs (drop_cons h3).1
theorem left_flag (h : Left l k siz pgs B N kp p) (hp : p < pgs) (hs : 1 < leNum ((l.drop kp).take 1)) : NoBlk l k siz pgs := fun bd nx er pl suf hb e => by
  obtain ⟨x, -, -, h3⟩ := left_page h hp hb e
  by_cases hx : x = []
  · rw [hx, pageB_nil] at h3
    rw [(drop_cons h3).2.1, leNum_one] at hs; revert hs; decide
  · rw [pageB_cons x hx] at h3
    rw [(drop_cons h3).2.1, leNum_one] at hs; revert hs; decide
theorem left_late (h : Left l k siz pgs B N kp p) (hp : p < pgs) (hs : leNum ((l.drop kp).take 1) = 1) (hN : ¬ p < N) : NoBlk l k siz pgs := fun bd nx er pl suf hb e => by
  obtain ⟨x, -, h2, h3⟩ := left_page h hp hb e
  by_cases hx : x = []
  · rw [hx, pageB_nil] at h3
    rw [(drop_cons h3).2.1, leNum_one] at hs; revert hs; decide
  · exact hN (h2 hx)
theorem left_cut (h : Left l k siz pgs B N kp p) (hp : p < pgs) (hs : leNum ((l.drop kp).take 1) = 1) (hN : ¬ kp + 1 + (siz + 64) ≤ l.length) : NoBlk l k siz pgs := fun bd nx er pl suf hb e => by
  obtain ⟨x, h1, h2, h3⟩ := left_page h hp hb e
  by_cases hx : x = []
  · rw [hx, pageB_nil] at h3
    rw [(drop_cons h3).2.1, leNum_one] at hs; revert hs; decide
  · rw [pageB_cons x hx] at h3
    have := (drop_app (drop_cons h3).2.2).1 hx
    have := h1.resolve_left hx
    omega
theorem left_none (h : Left l k siz pgs B N kp p) (hp : p < pgs) (hs : leNum ((l.drop kp).take 1) = 0) : Left l k siz pgs B N (kp + 1) (p + 1) := fun bd nx er pl suf hb e => by
  obtain ⟨g1, g2, -⟩ := h bd nx er pl suf hb e
  obtain ⟨x, h1, h2, h3⟩ := left_page h hp hb e
  by_cases hx : x = []
  · rw [hx, pageB_nil] at h3
    exact ⟨g1, g2, (drop_cons h3).2.2⟩
  · rw [pageB_cons x hx] at h3
    rw [(drop_cons h3).2.1, leNum_one] at hs
    exact absurd hs (by decide)
theorem left_some (h : Left l k siz pgs B N kp p) (hp : p < pgs) (hs : leNum ((l.drop kp).take 1) = 1) : Left l k siz pgs B N (kp + 1 + (siz + 64)) (p + 1) := fun bd nx er pl suf hb e => by
  obtain ⟨g1, g2, -⟩ := h bd nx er pl suf hb e
  obtain ⟨x, h1, h2, h3⟩ := left_page h hp hb e
  by_cases hx : x = []
  · rw [hx, pageB_nil] at h3
    rw [(drop_cons h3).2.1, leNum_one] at hs
    exact absurd hs (by decide)
  · rw [pageB_cons x hx] at h3
    have := (drop_app (drop_cons h3).2.2).2.2
    rw [h1.resolve_left hx] at this
    exact ⟨g1, g2, this⟩
theorem left_end (h : Left l k siz pgs B N kp pgs) {bd nx er pl suf} (hb : IsBlk siz pgs nx er pl) (e : l.drop k = blkBytes bd nx er pl ++ suf) : l.drop kp = suf := by
  have := (h bd nx er pl suf hb e).2.2
  have hd : pl.drop pgs = [] := List.drop_of_length_le (by rw [hb.len]; exact Nat.le_refl _)
  rw [hd] at this
  simpa using this
end
end Go.Proofs.Ytphnjiokihbhnaa
