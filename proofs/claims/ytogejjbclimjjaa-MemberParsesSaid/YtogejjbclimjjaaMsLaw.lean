/- Plain laws of sets: the page of one is it. -/
--only r2
import Derived.Test.YtogejjbclimjjaaMsPage
import Derived.Test.YtogejjbclimjjaaMsParse
import Derived.Test.YtogejjbclimjjaaBytesLaw
import Derived.Test.YtogejjbclimjjaaMsFirst
namespace Go.Proofs.Ytogejjbclimjjaa
set_option linter.unusedVariables false
set_option linter.unusedSimpArgs false

theorem mread_page {n b p s : Nat} {S : Ms} (hok : S.Ok n b) (hn : n ≤ 16) (hb : b ≤ 64) (hp : p < 65536) (hs : s < 65536) (hq : S.seq < 4294967296) :
    mRead b p s S.seq (msD S b p s) ∧ mSet (msD S b p s) = S := by
  obtain ⟨hcl, hcb, hsb, hdb, hnb⟩ := hok.byte hn hb
  obtain ⟨P, hP⟩ : ∃ P, P = leAll 1 (S.chips.map Int.toNat) := ⟨_, rfl⟩
  have hPl : P.length = n := by rw [hP, leAll_length]; simp [hcl]
  have hPi : intsOf P = S.chips := by rw [hP]; exact intsOf_leAll _ hcb
  obtain ⟨Z, hZ⟩ : ∃ Z : List UInt8, Z = List.replicate (s - (msB S b p s).length) 0 := ⟨_, rfl⟩
  have hZz : Z.all (· == 0) = true := by rw [hZ]; simp
  obtain ⟨B, hB⟩ : ∃ B, B = leBytes 4 S.seq := ⟨_, rfl⟩
  have hBl : B.length = 4 := by rw [hB, leBytes_length]
  have hBn : leNum B = S.seq := by rw [hB]; exact leNum_le 4 _ (by omega)
  obtain ⟨n8, hn8, hn8n⟩ : ∃ c : UInt8, leAll 1 [S.chips.length] = [c] ∧ c.toNat = n := ⟨_, rfl, by rw [u8_mod]; omega⟩
  obtain ⟨x8, y8, z8, hxy, hx8, hy8, hz8⟩ : ∃ c d e : UInt8, leAll 1 [S.spare.toNat, S.dead.toNat, S.done.toNat] = [c, d, e] ∧ c.toNat = S.spare.toNat ∧ d.toNat = S.dead.toNat ∧ e.toNat = S.done.toNat := ⟨_, _, _, rfl, by rw [u8_mod]; omega, by rw [u8_mod]; omega, by rw [u8_mod]; omega⟩
  have hl : msD S b p s = B ++ (n8 :: (P ++ (x8 :: y8 :: z8 :: (leBytes 2 b ++ (leBytes 2 p ++ (leBytes 2 s ++ Z)))))) := by
    unfold msD
    rw [← hZ]
    unfold msB
    rw [hn8, hxy, ← hP]
    simp [leAll, hB]
  generalize hL : msD S b p s = l at hl
  have hll : l.length = 14 + n + Z.length := by rw [hl]; simp [leBytes_length, hBl, hPl]; omega
  have eN : mN l = n := by unfold mN; rw [hl, getN_mid _ _ _ _ hBl, hn8n]
  have a5 : l = (B ++ (n8 :: P)) ++ (x8 :: (y8 :: z8 :: (leBytes 2 b ++ (leBytes 2 p ++ (leBytes 2 s ++ Z))))) := by rw [hl]; simp
  have a6 : l = (B ++ (n8 :: (P ++ [x8]))) ++ (y8 :: (z8 :: (leBytes 2 b ++ (leBytes 2 p ++ (leBytes 2 s ++ Z))))) := by rw [hl]; simp
  have a7 : l = (B ++ (n8 :: (P ++ [x8, y8]))) ++ (z8 :: (leBytes 2 b ++ (leBytes 2 p ++ (leBytes 2 s ++ Z)))) := by rw [hl]; simp
  have a8 : l = (B ++ (n8 :: (P ++ [x8, y8, z8]))) ++ (leBytes 2 b ++ (leBytes 2 p ++ (leBytes 2 s ++ Z))) := by rw [hl]; simp
  have a9 : l = (B ++ (n8 :: (P ++ (x8 :: y8 :: z8 :: leBytes 2 b)))) ++ (leBytes 2 p ++ (leBytes 2 s ++ Z)) := by rw [hl]; simp
  have aA : l = (B ++ (n8 :: (P ++ (x8 :: y8 :: z8 :: (leBytes 2 b ++ leBytes 2 p))))) ++ (leBytes 2 s ++ Z) := by rw [hl]; simp
  have aB : l = (B ++ (n8 :: (P ++ (x8 :: y8 :: z8 :: (leBytes 2 b ++ (leBytes 2 p ++ leBytes 2 s)))))) ++ Z := by rw [hl]; simp
  have e5 : getN l (5 + n) = S.spare.toNat := by rw [a5, getN_mid _ _ _ _ (by simp [hBl, hPl]; omega), hx8]
  have e6 : getN l (6 + n) = S.dead.toNat := by rw [a6, getN_mid _ _ _ _ (by simp [hBl, hPl]; omega), hy8]
  have e7 : getN l (7 + n) = S.done.toNat := by rw [a7, getN_mid _ _ _ _ (by simp [hBl, hPl]; omega), hz8]
  have e8 : mU l (8 + n) = b := leAt_mid a8 (by simp [hBl, hPl]; omega) (by omega)
  have e9 : mU l (10 + n) = p := leAt_mid a9 (by simp [hBl, hPl, leBytes_length]; omega) (by omega)
  have eA : mU l (12 + n) = s := leAt_mid aA (by simp [hBl, hPl, leBytes_length]; omega) (by omega)
  have eB : (l.drop (14 + n)).all (· == 0) = true := by
    rw [aB, List.drop_left' (by simp [hBl, hPl, leBytes_length]; omega)]; exact hZz
  have e4 : leNum (l.take 4) = S.seq := by rw [hl, List.take_left' hBl, hBn]
  have eP : intsOf ((l.drop 5).take n) = S.chips := by
    have h1 : l = (B ++ [n8]) ++ (P ++ (x8 :: y8 :: z8 :: (leBytes 2 b ++ (leBytes 2 p ++ (leBytes 2 s ++ Z))))) := by rw [hl]; simp
    rw [h1, List.drop_left' (by simp [hBl]), List.take_left' hPl, hPi]
  refine ⟨⟨by rw [eN]; omega, by rw [eN]; exact e8, by rw [eN]; exact e9, by rw [eN]; exact eA, by rw [eN]; exact eB, e4⟩, ?_⟩
  unfold mSet
  rw [eN, e4, eP, e5, e6, e7]
  obtain ⟨sq, xs, sp, dd, dn⟩ := S
  simp only at hsb hdb hnb ⊢
  rw [Int.toNat_of_nonneg hsb.1, Int.toNat_of_nonneg hdb.1, Int.toNat_of_nonneg hnb.1]

/-- what Page lays, Parse reads -/
theorem mparse_page {n b p s : Nat} {S : Ms} (hok : S.Ok n b) (hn : n ≤ 16) (hb : b ≤ 64) (hp : p < 65536) (hs : s < 65536) (hq : S.seq < 4294967296) :
    mParse n b p s (msD S b p s) (sealB (msH S) (msD S b p s) []) = (S, 0) := by
  obtain ⟨h1, h2⟩ := mread_page hok hn hb hp hs hq
  have ho := opened_seal (msH_ok hq) (by show 1 ≤ 2; decide) (by show 2 ≤ 6; decide) (msD S b p s) []
  have he : mEp (msD S b p s) (sealB (msH S) (msD S b p s) []) = some S.seq := by
    unfold mEp; rw [ho]; rfl
  unfold mParse
  rw [he]
  simp only
  rw [h2, if_pos ⟨h1, hok⟩]

/-- a first set, in which a chip is another one, is one -/
def Ms.swap (n k : Nat) (seq : Nat) (dead done : Int) : Ms := if k < n then ⟨seq, (upTo n).set k n, k, dead, done⟩ else ⟨seq, upTo n, n, dead, done⟩
theorem swap_list (n k : Nat) (hk : k ≤ n) : ∃ f : Nat → Nat, (∀ i, i ≤ n → f i ≤ n) ∧ (∀ i j, i ≤ n → j ≤ n → f i = f j → i = j) ∧ ∀ seq dead done, n ≤ 100 → (Ms.swap n k seq dead done).list = (List.range (n + 1)).map fun i => ((f i : Nat) : Int) := by
  refine ⟨fun i => if i = k then n else if i = n then k else i, fun i hi => ?_, fun i j hi hj h => ?_, fun seq dead done hn => ?_⟩
  · simp only; split
    · omega
    · split <;> omega
  · simp only at h
    repeat' split at h
    all_goals omega
  · unfold Ms.swap Ms.list
    by_cases hlt : k < n
    · rw [if_pos hlt]
      simp only
      rw [if_neg (by omega : ¬ (k : Int) = 255)]
      apply List.ext_getElem
      · simp [upTo]
      · intro i h1 h2
        simp only [List.length_append, List.length_set, upTo_length, List.length_cons, List.length_nil] at h1
        rw [List.getElem_map, List.getElem_range]
        by_cases hi : i < n
        · rw [List.getElem_append_left (by simp [upTo_length]; omega), List.getElem_set]
          by_cases e : k = i
          · rw [if_pos e, if_pos e.symm]
          · rw [if_neg e, if_neg (fun h => e h.symm), if_neg (by omega)]
            simp [upTo]
        · have e : i = n := by omega
          subst e
          rw [List.getElem_append_right (by simp [upTo_length])]
          rw [if_neg (by omega), if_pos rfl]
          simp
    · obtain rfl : k = n := by omega
      rw [if_neg hlt]
      simp only
      rw [if_neg (by omega : ¬ (k : Int) = 255), List.range_succ, List.map_append]
      congr 1
      · unfold upTo
        apply List.map_congr_left
        intro i hi
        have := List.mem_range.mp hi
        rw [if_neg (by omega), if_neg (by omega)]
      · simp
theorem swap_ok {n k : Nat} {b : Nat} (hk : k ≤ n) (hn : n ≤ 100) (seq : Nat) {dead done : Int} (hd : dead = 255 ∧ done = 0 ∨ (0 ≤ dead ∧ dead < n) ∧ 0 ≤ done ∧ done ≤ (b : Int) - 5) (hb : 5 ≤ b) : (Ms.swap n k seq dead done).Ok n b := by
  obtain ⟨f, hf1, hf2, hf3⟩ := swap_list n k hk
  have hsp : ∀ S : Ms, S = Ms.swap n k seq dead done → S.chips.length = n ∧ S.dead = dead ∧ S.done = done ∧ S.spare ≠ 255 := fun S hS => by
    rw [hS]; unfold Ms.swap
    split
    · exact ⟨by simp [upTo_length], rfl, rfl, by show (k : Int) ≠ 255; omega⟩
    · exact ⟨upTo_length n, rfl, rfl, by show (n : Int) ≠ 255; omega⟩
  obtain ⟨h1, h2, h3, h4⟩ := hsp _ rfl
  refine ⟨?_, ?_⟩
  · unfold Ms.bad
    rw [h1, h2, h3]
    omega
  · rw [hf3 seq dead done hn]
    intro j hj
    simp only [List.length_map, List.length_range] at hj
    simp only [List.getElem_map, List.getElem_range]
    refine ⟨by omega, by have := hf1 j (by omega); omega, fun hm => ?_⟩
    rw [← List.map_take, List.take_range, Nat.min_eq_left (by omega)] at hm
    obtain ⟨i, hi, he⟩ := List.mem_map.mp hm
    have hij := List.mem_range.mp hi
    have := hf2 i j (by omega) (by omega) (by omega)
    omega
end Go.Proofs.Ytogejjbclimjjaa
