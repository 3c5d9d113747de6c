/- Bytes and seals: plain laws. -/
--only r2
import Derived.Test.YtogejjbclimjjaaOpen
import Derived.Test.YtogejjbclimjjaaTabDec1
import Derived.Test.YtogejjbclimjjaaTabREnc
import Derived.Test.YtogejjbclimjjaaLeNum
namespace Go.Proofs.Ytogejjbclimjjaa
set_option linter.unusedVariables false
set_option linter.unusedSimpArgs false

theorem intsOf_leAll (l : List Int) (h : ∀ x ∈ l, 0 ≤ x ∧ x < 256) : intsOf (leAll 1 (l.map Int.toNat)) = l := by
  induction l with
  | nil => rfl
  | cons x l ih =>
    rw [List.map_cons, leAll1_cons]
    have h1 := h x List.mem_cons_self
    have e : ((UInt8.ofNat (x.toNat % 256)).toNat : Int) = x := by rw [u8_mod]; omega
    show ((UInt8.ofNat (x.toNat % 256)).toNat : Int) :: intsOf (leAll 1 (l.map Int.toNat)) = _
    rw [e, ih fun y hy => h y (List.mem_cons_of_mem _ hy)]
theorem getN_mid (a : List UInt8) (x : UInt8) (b : List UInt8) (k : Nat) (h : a.length = k) : getN (a ++ (x :: b)) k = x.toNat := by
  subst h; unfold getN; simp [List.getD]
/-- what is sealed is opened -/
theorem leAt_mid {l a b : List UInt8} {n v k : Nat} (hl : l = a ++ (leBytes n v ++ b)) (ha : a.length = k) (hv : v < 256 ^ n) : leAt l k n = v := by
  unfold leAt
  rw [hl, List.drop_left' ha, List.take_left' (leBytes_length n v), leNum_le n v hv]
theorem sealB_length (h : Hdr) (d m : List UInt8) : (sealB h d m).length = 64 := by
  have := h.bytes_length
  have := tailB_length m
  unfold sealB
  simp only [List.length_append, leBytes_length, List.length_replicate]
  omega
theorem opened_seal {h : Hdr} (ho : h.Ok) (h1 : 1 ≤ h.kind) (h6 : h.kind ≤ 6) (d m : List UInt8) : opened d (sealB h d m) = some h := by
  have hbl := h.bytes_length
  obtain ⟨k1, k2, k3, k4, k5, k6, k7⟩ := ho
  obtain ⟨s, hs⟩ : ∃ s, s = sumOf3 h.bytes d (tailB m) := ⟨_, rfl⟩
  have hs32 : s < 4294967296 := by rw [hs]; exact (crcOf _).isLt
  have hl : sealB h d m = leBytes 2 22356 ++ (leBytes 1 h.kind ++ (leBytes 1 0 ++ (leBytes 4 h.epoch ++ (leBytes 4 h.batch ++ (leBytes 2 h.index ++ (leBytes 2 h.count ++ (leBytes 4 h.block ++ (leBytes 4 h.more ++ (leBytes 4 s ++ (leBytes 4 0 ++ tailB m)))))))))) := by
    unfold sealB
    rw [← hs]
    have : 32 - (h.bytes ++ leBytes 4 s).length = 4 := by rw [List.length_append, hbl, leBytes_length]
    rw [this]
    unfold Hdr.bytes
    simp only [leAll, List.flatMap_cons, List.flatMap_nil, List.append_nil, List.nil_append, List.append_assoc]
    rfl
  generalize hL : sealB h d m = l at hl
  have f0 : leAt l 0 2 = 22356 := leAt_mid (a := []) hl rfl (by decide)
  have f2 : leAt l 2 1 = h.kind := leAt_mid (a := leBytes 2 22356) hl (leBytes_length _ _) (by omega)
  have f3 : leAt l 3 1 = 0 := leAt_mid (a := leBytes 2 22356 ++ leBytes 1 h.kind) (by rw [hl]; simp only [List.append_assoc]; rfl) (by simp [leBytes_length]) (by decide)
  have f4 : leAt l 4 4 = h.epoch := leAt_mid (a := leBytes 2 22356 ++ leBytes 1 h.kind ++ leBytes 1 0) (by rw [hl]; simp only [List.append_assoc]; rfl) (by simp [leBytes_length]) (by omega)
  have f8 : leAt l 8 4 = h.batch := leAt_mid (a := leBytes 2 22356 ++ leBytes 1 h.kind ++ leBytes 1 0 ++ leBytes 4 h.epoch) (by rw [hl]; simp only [List.append_assoc]; rfl) (by simp [leBytes_length]) (by omega)
  have f12 : leAt l 12 2 = h.index := leAt_mid (a := leBytes 2 22356 ++ leBytes 1 h.kind ++ leBytes 1 0 ++ leBytes 4 h.epoch ++ leBytes 4 h.batch) (by rw [hl]; simp only [List.append_assoc]; rfl) (by simp [leBytes_length]) (by omega)
  have f14 : leAt l 14 2 = h.count := leAt_mid (a := leBytes 2 22356 ++ leBytes 1 h.kind ++ leBytes 1 0 ++ leBytes 4 h.epoch ++ leBytes 4 h.batch ++ leBytes 2 h.index) (by rw [hl]; simp only [List.append_assoc]; rfl) (by simp [leBytes_length]) (by omega)
  have f16 : leAt l 16 4 = h.block := leAt_mid (a := leBytes 2 22356 ++ leBytes 1 h.kind ++ leBytes 1 0 ++ leBytes 4 h.epoch ++ leBytes 4 h.batch ++ leBytes 2 h.index ++ leBytes 2 h.count) (by rw [hl]; simp only [List.append_assoc]; rfl) (by simp [leBytes_length]) (by omega)
  have f20 : leAt l 20 4 = h.more := leAt_mid (a := leBytes 2 22356 ++ leBytes 1 h.kind ++ leBytes 1 0 ++ leBytes 4 h.epoch ++ leBytes 4 h.batch ++ leBytes 2 h.index ++ leBytes 2 h.count ++ leBytes 4 h.block) (by rw [hl]; simp only [List.append_assoc]; rfl) (by simp [leBytes_length]) (by omega)
  have f24 : leAt l 24 4 = s := leAt_mid (a := leBytes 2 22356 ++ leBytes 1 h.kind ++ leBytes 1 0 ++ leBytes 4 h.epoch ++ leBytes 4 h.batch ++ leBytes 2 h.index ++ leBytes 2 h.count ++ leBytes 4 h.block ++ leBytes 4 h.more) (by rw [hl]; simp only [List.append_assoc]; rfl) (by simp [leBytes_length]) (by omega)
  have f28 : leAt l 28 4 = 0 := leAt_mid (a := leBytes 2 22356 ++ leBytes 1 h.kind ++ leBytes 1 0 ++ leBytes 4 h.epoch ++ leBytes 4 h.batch ++ leBytes 2 h.index ++ leBytes 2 h.count ++ leBytes 4 h.block ++ leBytes 4 h.more ++ leBytes 4 s) (by rw [hl]; simp only [List.append_assoc]; rfl) (by simp [leBytes_length]) (by decide)
  have t24 : l.take 24 = h.bytes := by
    rw [← hL]; unfold sealB
    rw [List.append_assoc, List.append_assoc, List.take_left' hbl]
  have d32 : l.drop 32 = tailB m := by
    rw [← hL]; unfold sealB
    rw [List.drop_left']
    simp only [List.length_append, hbl, leBytes_length, List.length_replicate]
  have hsum : sum3 l d = s := by unfold sum3; rw [t24, d32, hs]
  have hw : wellLaid l d = true := by
    unfold wellLaid
    rw [f0, f3, f28, f24, hsum]; simp
  have hh : hdrOf l = h := by
    unfold hdrOf
    rw [f2, f4, f8, f12, f14, f16, f20]
  unfold opened
  rw [if_pos ⟨by rw [← hL]; exact sealB_length h d m, hw, by rw [f2]; exact h1, by rw [f2]; exact h6⟩, hh]
end Go.Proofs.Ytogejjbclimjjaa
