/- Plain laws of tables: the bytes of one are it; plain tables are; a block that is taken leaves one. -/
--only r2
import Derived.Test.YtogejjbclimjjaaTabTake
import Derived.Test.YtogejjbclimjjaaTabPlain
import Derived.Test.YtogejjbclimjjaaTabREnc
import Derived.Test.YtogejjbclimjjaaLeNum
namespace Go.Proofs.Ytogejjbclimjjaa
set_option linter.unusedVariables false
set_option linter.unusedSimpArgs false

theorem intsOf_leAll (l : List Int) (h : ∀ x ∈ l, 0 ≤ x ∧ x < 256) : intsOf (leAll 1 (l.map Int.toNat)) = l := by
  induction l with
  | nil => rfl
  | cons x l ih =>
    rw [List.map_cons, leAll1_cons]
    have h1 := h x List.mem_cons_self
    have e : ((UInt8.ofNat (x.toNat % 256)).toNat : Int) = x := by rw [u8_mod]; omega
    show ((UInt8.ofNat (x.toNat % 256)).toNat : Int) :: intsOf (leAll 1 (l.map Int.toNat)) = _
    rw [e, ih fun y hy => h y (List.mem_cons_of_mem _ hy)]
theorem getN_mid (a : List UInt8) (x : UInt8) (b : List UInt8) (k : Nat) (h : a.length = k) : getN (a ++ (x :: b)) k = x.toNat := by
  subst h; unfold getN; simp [List.getD]
/-- the bytes of a table, with noughts behind, are it -/
theorem dec_enc {n : Nat} {T : Tb} (hok : T.Ok n) (hn : n ≤ 64) (hs : T.seq < 4294967296) (k : Nat) : dGood n (encB T ++ List.replicate k 0) ∧ dTab (encB T ++ List.replicate k 0) = T := by
  obtain ⟨hb1, hb2, hb3, hb4⟩ := hok.byte hn
  have hlen := hok.len
  obtain ⟨P, hP⟩ : ∃ P, P = leAll 1 (T.place.map Int.toNat) := ⟨_, rfl⟩
  obtain ⟨S, hS⟩ : ∃ S, S = leAll 1 (T.spare.map Int.toNat) := ⟨_, rfl⟩
  obtain ⟨Z, hZ⟩ : ∃ Z : List UInt8, Z = List.replicate k 0 := ⟨_, rfl⟩
  have hPl : P.length = T.place.length := by rw [hP, leAll_length]; simp
  have hSl : S.length = T.spare.length := by rw [hS, leAll_length]; simp
  have hPi : intsOf P = T.place := by rw [hP]; exact intsOf_leAll _ hb1
  have hSi : intsOf S = T.spare := by rw [hS]; exact intsOf_leAll _ hb2
  obtain ⟨B, hB⟩ : ∃ B, B = leBytes 4 T.seq := ⟨_, rfl⟩
  have hBl : B.length = 4 := by rw [hB, leBytes_length]
  have hBn : leNum B = T.seq := by rw [hB]; exact leNum_le 4 _ (by omega)
  obtain ⟨n8, hn8, hn8n⟩ : ∃ c : UInt8, leAll 1 [T.place.length] = [c] ∧ c.toNat = T.place.length := ⟨_, rfl, by rw [u8_mod]; omega⟩
  obtain ⟨m8, hm8, hm8n⟩ : ∃ c : UInt8, leAll 1 [T.spare.length] = [c] ∧ c.toNat = T.spare.length := ⟨_, rfl, by rw [u8_mod]; omega⟩
  obtain ⟨x8, y8, hxy, hx8, hy8⟩ : ∃ c d : UInt8, leAll 1 [T.t0.toNat, T.t1.toNat] = [c, d] ∧ c.toNat = T.t0.toNat ∧ d.toNat = T.t1.toNat := ⟨_, _, rfl, by rw [u8_mod]; omega, by rw [u8_mod]; omega⟩
  have hl : encB T ++ List.replicate k 0 = B ++ (n8 :: (P ++ (m8 :: (S ++ (x8 :: y8 :: Z))))) := by
    unfold encB listB
    rw [hn8, hm8, hxy, ← hP, ← hS, ← hZ]
    simp [leAll, hB]
  rw [hl]
  generalize hL : B ++ (n8 :: (P ++ (m8 :: (S ++ (x8 :: y8 :: Z))))) = l
  have e4 : dN l = T.place.length := by unfold dN; rw [← hL, getN_mid _ _ _ _ hBl, hn8n]
  have a5 : l = (B ++ (n8 :: P)) ++ (m8 :: (S ++ (x8 :: y8 :: Z))) := by rw [← hL]; simp
  have e5 : dM l = T.spare.length := by unfold dM; rw [e4, a5, getN_mid _ _ _ _ (by simp [hBl, hPl]; omega), hm8n]
  have a6 : l = (B ++ (n8 :: (P ++ (m8 :: S)))) ++ (x8 :: y8 :: Z) := by rw [← hL]; simp
  have eE : dEnd l = 6 + T.place.length + T.spare.length := by unfold dEnd; rw [e4, e5]
  have e6 : getN l (dEnd l) = T.t0.toNat := by rw [eE, a6, getN_mid _ _ _ _ (by simp [hBl, hPl, hSl]; omega), hx8]
  have a7 : l = (B ++ (n8 :: (P ++ (m8 :: (S ++ [x8]))))) ++ (y8 :: Z) := by rw [← hL]; simp
  have e7 : getN l (dEnd l + 1) = T.t1.toNat := by rw [eE, a7, getN_mid _ _ _ _ (by simp [hBl, hPl, hSl]; omega), hy8]
  have t4 : l.take 4 = B := by rw [← hL, ← hBl]; simp
  have d5 : (l.drop 5).take (dN l) = P := by
    rw [e4, show l = (B ++ [n8]) ++ (P ++ (m8 :: (S ++ (x8 :: y8 :: Z)))) by rw [← hL]; simp, List.drop_left' (by simp [hBl]), ← hPl]; simp
  have d6 : (l.drop (6 + dN l)).take (dM l) = S := by
    rw [e4, e5, show l = (B ++ (n8 :: (P ++ [m8]))) ++ (S ++ (x8 :: y8 :: Z)) by rw [← hL]; simp, List.drop_left' (by simp [hBl, hPl]; omega), ← hSl]; simp
  have hT : dTab l = T := by
    unfold dTab
    rw [t4, hBn, d5, d6, hPi, hSi, e6, e7]
    obtain ⟨sq, pl, sp, t0, t1⟩ := T
    simp only at hb3 hb4 ⊢
    congr 1 <;> omega
  refine ⟨⟨?_, ?_, by rw [hT]; exact hok⟩, hT⟩
  · unfold dEnough
    rw [eE, a6]
    simp [hBl, hPl, hSl]; omega
  · unfold dZero
    rw [eE, show l = (B ++ (n8 :: (P ++ (m8 :: (S ++ [x8, y8]))))) ++ Z by rw [← hL]; simp, List.drop_left' (by simp [hBl, hPl, hSl]; omega), hZ]
    simp

theorem five : ∀ b : Fin 65, b.val % 5 ≠ 0 → ∀ d : Fin 65, d.val < b.val → (d.val * 5) % b.val = 0 → d.val = 0 := by decide +kernel
theorem plain_inj {b n i j : Nat} (hb : 16 ≤ b ∧ b ≤ 64) (hi : i < b) (hj : j < b) (h : plainAt b n i = plainAt b n j) : i = j := by
  have key : ∀ i j, j ≤ i → i < b → plainAt b n i = plainAt b n j → i = j := fun i j hji hi h => by
    unfold plainAt at h
    by_cases h5 : b % 5 = 0
    · rw [if_pos h5, if_pos h5] at h
      have h1 := Nat.sub_mod_eq_zero_of_mod_eq h
      rw [show i + n - (j + n) = i - j by omega, Nat.mod_eq_of_lt (by omega)] at h1
      omega
    · rw [if_neg h5, if_neg h5] at h
      have h1 := Nat.sub_mod_eq_zero_of_mod_eq h
      rw [show i * 5 + n - (j * 5 + n) = (i - j) * 5 by omega] at h1
      have := five ⟨b, by omega⟩ h5 ⟨i - j, by omega⟩ (by show i - j < b; omega) h1
      simp only at this
      omega
  rcases Nat.le_total j i with hji | hij
  · exact key i j hji hi h
  · exact (key j i hij hj h.symm).symm
def plainIdx (b k : Nat) : List Nat := (List.range (b - 5)).map (2 + ·) ++ ((List.range k).map (b - 3 + ·) ++ [0, 1])
theorem plain_all (b n k seq : Nat) : (plainT b n k seq).all = (plainIdx b k).map fun i => ((plainAt b n i : Nat) : Int) := by
  unfold plainT Tb.all Tb.tabs plainIdx plainL
  simp [List.map_map, Function.comp_def]
theorem plain_ok {b n k seq : Nat} (hb : 16 ≤ b ∧ b ≤ 64) (hk : k < 4) : (plainT b n k seq).Ok b := by
  have hidx : ∀ i ∈ plainIdx b k, i < b := fun i hi => by
    unfold plainIdx at hi
    simp only [List.mem_append, List.mem_map, List.mem_range, List.mem_cons, List.not_mem_nil, or_false] at hi
    rcases hi with ⟨x, hx, rfl⟩ | ⟨x, hx, rfl⟩ | rfl | rfl <;> omega
  refine ⟨?_, fun x hx => ?_, ?_⟩
  · show (plainL b n 2 (b - 5)).length + 5 = b
    rw [plainL_length]; omega
  · rw [plain_all] at hx
    obtain ⟨i, hi, rfl⟩ := List.mem_map.mp hx
    have := plainAt_lt b n i (by omega)
    omega
  · rw [plain_all]
    unfold List.Nodup
    rw [List.pairwise_map]
    have hnd : (plainIdx b k).Nodup := by
      unfold plainIdx
      rw [List.nodup_append]
      refine ⟨?_, ?_, ?_⟩
      · unfold List.Nodup; rw [List.pairwise_map]; exact List.nodup_range.imp fun h e => h (by omega)
      · rw [List.nodup_append]
        refine ⟨?_, by decide, ?_⟩
        · unfold List.Nodup; rw [List.pairwise_map]; exact List.nodup_range.imp fun h e => h (by omega)
        · intro a ha c hc
          simp only [List.mem_map, List.mem_range, List.mem_cons, List.not_mem_nil, or_false] at ha hc
          obtain ⟨x, hx, rfl⟩ := ha
          omega
      · intro a ha c hc
        simp only [List.mem_map, List.mem_range, List.mem_append, List.mem_cons, List.not_mem_nil, or_false] at ha hc
        obtain ⟨x, hx, rfl⟩ := ha
        rcases hc with ⟨y, hy, rfl⟩ | rfl | rfl <;> omega
    exact List.Pairwise.imp_of_mem (fun {a c} ha hc hne he => hne (plain_inj (n := n) hb (hidx a ha) (hidx c hc) (Int.ofNat_inj.mp he))) hnd

/-- what is sealed is opened -/
theorem leAt_mid {l a b : List UInt8} {n v k : Nat} (hl : l = a ++ (leBytes n v ++ b)) (ha : a.length = k) (hv : v < 256 ^ n) : leAt l k n = v := by
  unfold leAt
  rw [hl, List.drop_left' ha, List.take_left' (leBytes_length n v), leNum_le n v hv]
theorem sealB_length (h : Hdr) (d m : List UInt8) : (sealB h d m).length = 64 := by
  have := h.bytes_length
  have := tailB_length m
  unfold sealB
  simp only [List.length_append, leBytes_length, List.length_replicate]
  omega
theorem opened_seal {h : Hdr} (ho : h.Ok) (h1 : 1 ≤ h.kind) (h6 : h.kind ≤ 6) (d m : List UInt8) : opened d (sealB h d m) = some h := by
  have hbl := h.bytes_length
  obtain ⟨k1, k2, k3, k4, k5, k6, k7⟩ := ho
  obtain ⟨s, hs⟩ : ∃ s, s = sumOf3 h.bytes d (tailB m) := ⟨_, rfl⟩
  have hs32 : s < 4294967296 := by rw [hs]; exact (crcOf _).isLt
  have hl : sealB h d m = leBytes 2 22356 ++ (leBytes 1 h.kind ++ (leBytes 1 0 ++ (leBytes 4 h.epoch ++ (leBytes 4 h.batch ++ (leBytes 2 h.index ++ (leBytes 2 h.count ++ (leBytes 4 h.block ++ (leBytes 4 h.more ++ (leBytes 4 s ++ (leBytes 4 0 ++ tailB m)))))))))) := by
    unfold sealB
    rw [← hs]
    have : 32 - (h.bytes ++ leBytes 4 s).length = 4 := by rw [List.length_append, hbl, leBytes_length]
    rw [this]
    unfold Hdr.bytes
    simp only [leAll, List.flatMap_cons, List.flatMap_nil, List.append_nil, List.nil_append, List.append_assoc]
    rfl
  generalize hL : sealB h d m = l at hl
  have f0 : leAt l 0 2 = 22356 := leAt_mid (a := []) hl rfl (by decide)
  have f2 : leAt l 2 1 = h.kind := leAt_mid (a := leBytes 2 22356) hl (leBytes_length _ _) (by omega)
  have f3 : leAt l 3 1 = 0 := leAt_mid (a := leBytes 2 22356 ++ leBytes 1 h.kind) (by rw [hl]; simp only [List.append_assoc]; rfl) (by simp [leBytes_length]) (by decide)
  have f4 : leAt l 4 4 = h.epoch := leAt_mid (a := leBytes 2 22356 ++ leBytes 1 h.kind ++ leBytes 1 0) (by rw [hl]; simp only [List.append_assoc]; rfl) (by simp [leBytes_length]) (by omega)
  have f8 : leAt l 8 4 = h.batch := leAt_mid (a := leBytes 2 22356 ++ leBytes 1 h.kind ++ leBytes 1 0 ++ leBytes 4 h.epoch) (by rw [hl]; simp only [List.append_assoc]; rfl) (by simp [leBytes_length]) (by omega)
  have f12 : leAt l 12 2 = h.index := leAt_mid (a := leBytes 2 22356 ++ leBytes 1 h.kind ++ leBytes 1 0 ++ leBytes 4 h.epoch ++ leBytes 4 h.batch) (by rw [hl]; simp only [List.append_assoc]; rfl) (by simp [leBytes_length]) (by omega)
  have f14 : leAt l 14 2 = h.count := leAt_mid (a := leBytes 2 22356 ++ leBytes 1 h.kind ++ leBytes 1 0 ++ leBytes 4 h.epoch ++ leBytes 4 h.batch ++ leBytes 2 h.index) (by rw [hl]; simp only [List.append_assoc]; rfl) (by simp [leBytes_length]) (by omega)
  have f16 : leAt l 16 4 = h.block := leAt_mid (a := leBytes 2 22356 ++ leBytes 1 h.kind ++ leBytes 1 0 ++ leBytes 4 h.epoch ++ leBytes 4 h.batch ++ leBytes 2 h.index ++ leBytes 2 h.count) (by rw [hl]; simp only [List.append_assoc]; rfl) (by simp [leBytes_length]) (by omega)
  have f20 : leAt l 20 4 = h.more := leAt_mid (a := leBytes 2 22356 ++ leBytes 1 h.kind ++ leBytes 1 0 ++ leBytes 4 h.epoch ++ leBytes 4 h.batch ++ leBytes 2 h.index ++ leBytes 2 h.count ++ leBytes 4 h.block) (by rw [hl]; simp only [List.append_assoc]; rfl) (by simp [leBytes_length]) (by omega)
  have f24 : leAt l 24 4 = s := leAt_mid (a := leBytes 2 22356 ++ leBytes 1 h.kind ++ leBytes 1 0 ++ leBytes 4 h.epoch ++ leBytes 4 h.batch ++ leBytes 2 h.index ++ leBytes 2 h.count ++ leBytes 4 h.block ++ leBytes 4 h.more) (by rw [hl]; simp only [List.append_assoc]; rfl) (by simp [leBytes_length]) (by omega)
  have f28 : leAt l 28 4 = 0 := leAt_mid (a := leBytes 2 22356 ++ leBytes 1 h.kind ++ leBytes 1 0 ++ leBytes 4 h.epoch ++ leBytes 4 h.batch ++ leBytes 2 h.index ++ leBytes 2 h.count ++ leBytes 4 h.block ++ leBytes 4 h.more ++ leBytes 4 s) (by rw [hl]; simp only [List.append_assoc]; rfl) (by simp [leBytes_length]) (by decide)
  have t24 : l.take 24 = h.bytes := by
    rw [← hL]; unfold sealB
    rw [List.append_assoc, List.append_assoc, List.take_left' hbl]
  have d32 : l.drop 32 = tailB m := by
    rw [← hL]; unfold sealB
    rw [List.drop_left']
    simp only [List.length_append, hbl, leBytes_length, List.length_replicate]
  have hsum : sum3 l d = s := by unfold sum3; rw [t24, d32, hs]
  have hw : wellLaid l d = true := by
    unfold wellLaid
    rw [f0, f3, f28, f24, hsum]; simp
  have hh : hdrOf l = h := by
    unfold hdrOf
    rw [f2, f4, f8, f12, f14, f16, f20]
  unfold opened
  rw [if_pos ⟨by rw [← hL]; exact sealB_length h d m, hw, by rw [f2]; exact h1, by rw [f2]; exact h6⟩, hh]

theorem took_ok {n : Nat} {T : Tb} {v : Int} (hok : T.Ok n) (hv : T.mayTake v) : (T.took v).Ok n := by
  obtain ⟨h1, h2, h3⟩ := hok
  obtain ⟨m1, m2, m3⟩ := hv
  obtain ⟨sq, pl, sp, t0, t1⟩ := T
  cases sp with
  | nil => simp at m1
  | cons s0 sp =>
    have key : ∀ (x : Int) (l : List Int), (pl ++ (s0 :: sp ++ [t0, t1])).Perm (x :: l) → inN n l ∧ l.Nodup := fun x l hp => by
      have hn := hp.nodup_iff.mp h3
      exact ⟨fun y hy => h2 y (hp.mem_iff.mpr (List.mem_cons_of_mem _ hy)), (List.nodup_cons.mp hn).2⟩
    unfold Tb.took
    by_cases e1 : v = -1
    · rw [if_pos e1]
      refine ⟨h1, ?_⟩
      unfold Tb.all Tb.tabs
      simp only [List.tail_cons, List.headD_cons]
      refine key t0 _ (List.perm_iff_count.mpr fun a => ?_)
      simp only [List.count_append, List.count_cons, List.count_nil]; omega
    · rw [if_neg e1]
      by_cases e2 : v = -2
      · rw [if_pos e2]
        refine ⟨h1, ?_⟩
        unfold Tb.all Tb.tabs
        simp only [List.tail_cons, List.headD_cons]
        refine key t1 _ (List.perm_iff_count.mpr fun a => ?_)
        simp only [List.count_append, List.count_cons, List.count_nil]; omega
      · rw [if_neg e2]
        simp only at m3
        have hi : v.toNat < pl.length := by omega
        refine ⟨by show (pl.set v.toNat _).length + 5 = n; rw [List.length_set]; exact h1, ?_⟩
        unfold Tb.all Tb.tabs
        simp only [List.tail_cons, List.headD_cons]
        refine key pl[v.toNat] _ (List.perm_iff_count.mpr fun a => ?_)
        rw [List.set_eq_take_append_cons_drop, if_pos hi]
        have hc : pl.count a = (pl.take v.toNat).count a + ((pl.drop (v.toNat + 1)).count a + if (pl[v.toNat] == a) = true then 1 else 0) := by
          have e : pl = pl.take v.toNat ++ pl[v.toNat] :: pl.drop (v.toNat + 1) := by simp
          conv => lhs; rw [e]
          rw [List.count_append, List.count_cons]
        simp only [List.count_append, List.count_cons, List.count_nil, hc]; omega
theorem took_spare {T : Tb} {v : Int} (hv : T.mayTake v) : (T.took v).spare.length + 1 = T.spare.length ∧ (T.took v).place.length = T.place.length ∧ (T.took v).seq = T.seq := by
  obtain ⟨m1, m2, m3⟩ := hv
  unfold Tb.took
  split
  · exact ⟨by simp; omega, rfl, rfl⟩
  · split
    · exact ⟨by simp; omega, rfl, rfl⟩
    · exact ⟨by simp; omega, by simp, rfl⟩
end Go.Proofs.Ytogejjbclimjjaa
