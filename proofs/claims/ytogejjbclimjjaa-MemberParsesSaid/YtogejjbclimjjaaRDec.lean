/- Layer 6's answer: take. -/
--only r2
import Derived.Test.YtogejjbclimjjaaRefNum
import Derived.Test.YtogejjbclimjjaaTabRCheck
import Derived.Test.YtogejjbclimjjaaTabDec
import Derived.Deep.DeepCutAuto
namespace Go.Proofs.Ytogejjbclimjjaa
set_option linter.unusedVariables false
set_option linter.unusedSimpArgs false
open Go.RowKit

theorem getN_at {l : List UInt8} {k : Nat} (hk : k < l.length) : getN l k = l[k].toNat := by
  unfold getN; rw [List.getD_eq_getElem?_getD, List.getElem?_eq_getElem hk]; rfl

set_option maxRecDepth 100000 in
set_option maxHeartbeats 1000000 in
theorem rtake_no (v : Value) (l : List UInt8) (at' : Int) (w : World) (h : RB w v l) (hl : l.length ≤ 1000) (ha : -1 ≤ at' ∧ at' ≤ 2000)
    (hno : at' < 0 ∨ (l.length : Int) ≤ at' ∨ ∃ k : Nat, at' = k ∧ k < l.length ∧ l.length < k + 1 + getN l k) :
    Calls Try.prog 67 #[v, .int .i64 at'] w fun e w' => e = .returned (.tuple #[.slice none 0 0, .int .i64 (-1)]) ∧ w = w' := by
  obtain ⟨a, c, rfl, hlc, hcm⟩ := h.form
  by_cases h1 : at' < 0
  · have e1 : decide (at' < 0) = true := by simp; omega
    clear hno
    go_enter Try.func67, Try.ntmps67
    go_wp2_with fail
    go_ret2
    exact ⟨rfl, rfl⟩
  · by_cases h2 : (l.length : Int) ≤ at'
    · have e1 : decide (at' < 0) = false := by simp; omega
      have e2 : decide ((l.length : Int) ≤ at') = true := by simp; omega
      clear hno
      go_enter Try.func67, Try.ntmps67
      go_wp2_with fail
      go_ret2
      exact ⟨rfl, rfl⟩
    · obtain ⟨k, rfl, hk, hk2⟩ : ∃ k : Nat, at' = k ∧ k < l.length ∧ l.length < k + 1 + getN l k := by
        rcases hno with h | h | h
        · exact absurd h h1
        · exact absurd h h2
        · exact h
      obtain ⟨b, o, c', ee, _, _, hc⟩ := h.out (by omega)
      simp only [Value.slice.injEq] at ee
      obtain ⟨rfl, -, rfl⟩ := ee
      have hcj := hc k hk
      rw [getN_at hk] at hk2
      obtain ⟨C, hC⟩ : ∃ C, C = l[k] := ⟨_, rfl⟩
      rw [← hC] at hcj hk2
      have hkl : (k : Int) < (l.length : Int) := by omega
      have hC2 := C.toNat_lt
      have e0 : decide ((k : Int) < 0) = false := by simp
      have e0' : decide ((l.length : Int) ≤ (k : Int)) = false := by simp; omega
      have e1 : IntKind.i64.wrap ((l.length : Int) - (k : Int)) = (l.length : Int) - (k : Int) := IntWalk.i64_in _ (by omega)
      have e2 : IntKind.i64.wrap ((l.length : Int) - (k : Int) - 1) = (l.length : Int) - (k : Int) - 1 := IntWalk.i64_in _ (by omega)
      have e3 : decide ((l.length : Int) - (k : Int) - 1 < (C.toNat : Int)) = true := by simp; omega
      have e4 : ((l.length : Int) - (k : Int) - 1 < (C.toNat : Int)) := by omega
      clear hno hC hc
      go_enter Try.func67, Try.ntmps67
      go_wp2_with fail
      go_ret2
      exact ⟨rfl, rfl⟩

set_option maxRecDepth 100000 in
set_option maxHeartbeats 1000000 in
theorem rtake_yes (v : Value) (l : List UInt8) (k : Nat) (w : World) (h : RB w v l) (hl : l.length ≤ 1000) (hk : k < l.length) (hk2 : k + 1 + getN l k ≤ l.length) :
    Calls Try.prog 67 #[v, .int .i64 k] w fun e w' => ∃ x, e = .returned (.tuple #[x, .int .i64 (k + 1 + getN l k : Nat)]) ∧ w'.ownsRow w.heap.size 3 1 x (getN l k) ((intsOf ((l.drop (k + 1)).take (getN l k))).map i64v) ∧ Below w.heap.size w w' := by
  obtain ⟨i, hi, hz0, hz1, hz2⟩ := info_parts infoI64
  obtain ⟨a, c, rfl, hlc, hcm⟩ := h.form
  unfold maxLen at hcm
  obtain ⟨b, o, c', ee, _, _, hc⟩ := h.out (by omega)
  simp only [Value.slice.injEq] at ee
  obtain ⟨rfl, -, rfl⟩ := ee
  have hcj := hc k hk
  obtain ⟨m, hm⟩ : ∃ m, m = (l.drop (k + 1)).take (getN l k) := ⟨_, rfl⟩
  rw [← hm]
  have hml : m.length = getN l k := by rw [hm]; simp; omega
  have hmj : ∀ j (hj : j < m.length) (hk : k + 1 + j < l.length), m[j] = l[k + 1 + j] := fun j hj hk => by
    subst hm
    simp only [List.getElem_take, List.getElem_drop]
  rw [← hml] at hk2 ⊢
  rw [getN_at hk] at hml
  obtain ⟨C, hC⟩ : ∃ C, C = l[k] := ⟨_, rfl⟩
  rw [← hC] at hcj hml
  have hC2 := C.toNat_lt
  have hkl : (k : Int) < (l.length : Int) := by omega
  have HM := Lib.hid (⟨hml, hmj, h, hk2⟩ : _ ∧ _ ∧ _ ∧ _)
  have e0 : decide ((k : Int) < 0) = false := by simp
  have e0' : decide ((l.length : Int) ≤ (k : Int)) = false := by simp; omega
  have e1 : IntKind.i64.wrap ((l.length : Int) - (k : Int)) = (l.length : Int) - (k : Int) := IntWalk.i64_in _ (by omega)
  have e2 : IntKind.i64.wrap ((l.length : Int) - (k : Int) - 1) = (l.length : Int) - (k : Int) - 1 := IntWalk.i64_in _ (by omega)
  have e3 : decide ((l.length : Int) - (k : Int) - 1 < (C.toNat : Int)) = false := by simp; omega
  have e4 : ¬ ((l.length : Int) - (k : Int) - 1 < (C.toNat : Int)) := by omega
  have HC := Lib.hid hC
  clear hm hC hc hml hmj
  go_enter Try.func67, Try.ntmps67
  go_wp2_with fail
  clear e0 e0' e1 e2 e3 e4
  go_loopw [6, 7] (fun x6 x7 wr => ∃ j : Nat, j ≤ m.length ∧ x7 = .int .i64 j ∧ wr.ownsRow w.heap.size 3 1 x6 j ((intsOf (m.take j)).map i64v) ∧ Below w.heap.size w wr) (fun _ x7 _ => m.length - (intOf x7).toNat)
  case atStart => exact ⟨0, Nat.zero_le _, rfl, World.ownsRow_nil _ _ _ _, Below.refl _ _⟩
  case round =>
    obtain ⟨j, hj, rfl, hown, hbel⟩ := hrel
    obtain ⟨a0, k0, rfl⟩ := own_slice hown
    have hcj := below_cell hbel (cell_lt hcj) hcj
    by_cases hlt : j < m.length
    · have hjC : (j : Int) < (C.toNat : Int) := by have := HM.out.1; omega
      have hkj : k + 1 + j < l.length := by have := HM.out.2.2.2; omega
      have hkj' : (k : Int) + 1 + (j : Int) < (l.length : Int) := by omega
      obtain ⟨b, o, c', ee, _, _, hc⟩ := (HM.out.2.2.1.below hbel).out (by omega)
      simp only [Value.slice.injEq, Option.some.injEq, Addr.mk.injEq] at ee
      obtain ⟨⟨rfl, rfl, -⟩, -, rfl⟩ := ee
      have hcx := hc (k + 1 + j) hkj
      obtain ⟨X, hX⟩ : ∃ X, X = m[j] := ⟨_, rfl⟩
      rw [← HM.out.2.1 j hlt hkj, ← hX] at hcx
      have hX2 := X.toNat_lt
      have hnx : ((intsOf (m.take (j + 1))).map i64v) = ((intsOf (m.take j)).map i64v) ++ [.int .i64 (X.toNat : Nat)] := by
        rw [List.take_succ_eq_append_getElem hlt, ← hX]; unfold intsOf; rw [List.map_append, List.map_append]; rfl
      have hsz := hbel.size
      have HX := Lib.hid (⟨hnx, hlt⟩ : _ ∧ _)
      have hv1 : RV (wr.alloc (.cells #[.int .i64 (X.toNat : Nat)] 3)) (.slice (some ⟨wr.heap.size, 0, none⟩) 1 1) [.int .i64 (X.toNat : Nat)] :=
        RV.block (cs := #[.int .i64 (X.toNat : Nat)]) (heap_is rfl) rfl (Nat.le_refl _) (by unfold maxLen; omega) rfl
      have hb2 := (Below.refl wr.heap.size wr).alloc (Nat.le_refl _) (.cells #[.int .i64 (X.toNat : Nat)] 3)
      have hown2 := hown.alloc (.cells #[.int .i64 (X.toNat : Nat)] 3)
      have hbel2 := hbel.trans (hb2.mono hsz)
      clear hnx hX hc
      go_wp2_with (at_builtin; (refine wpList_append_RV rfl _ _ 22 rfl w.heap.size 3 i (.int .i64 0) 8 Try.underlying22 hi hz0 hz1 hz2 rfl (.slice a0 j k0) j _ rfl hown2 _ _ rfl hv1 (one_cell rfl) ?c1 ?c2 ?c3 ?_))
      case c1 => simp only [maxLen, List.length_cons, List.length_nil]; omega
      case c2 => simp only [List.length_cons, List.length_nil]; omega
      case c3 => exact hbel2.size
      intro v' w1 hown3 hg _
      have hb3 := below_pushed hbel2 hown2 hg hbel2.size (Nat.le_refl _)
      obtain ⟨a1, k1, rfl⟩ := own_slice hown3
      have HY := Lib.hid (⟨hown3, hb3⟩ : _ ∧ _)
      clear hown3 hb3 hg hbel2 hown2 hb2 hv1 hown hbel
      go_wp2_with fail
      obtain ⟨hnx, hlt⟩ := HX.out
      go_roundw
      case rel => exact ⟨j + 1, hlt, by go_num, by rw [hnx]; exact HY.out.1, HY.out.2⟩
      case measure =>
        show m.length - ((j : Int) + 1).toNat < m.length - (j : Int).toNat
        omega
    · obtain rfl : j = m.length := by omega
      have hjC : ¬ ((m.length : Int) < (C.toNat : Int)) := by have := HM.out.1; omega
      rw [List.take_length] at hown
      have e1 : IntKind.i64.wrap ((k : Int) + 1) = (k : Int) + 1 := IntWalk.i64_in _ (by omega)
      have e2 : IntKind.i64.wrap ((k : Int) + 1 + (C.toNat : Int)) = (k : Int) + 1 + (C.toNat : Int) := IntWalk.i64_in _ (by omega)
      have e3 : IntKind.i64.wrap (C.toNat : Int) = (C.toNat : Int) := IntWalk.i64_in _ (by omega)
      have HY := Lib.hid (⟨hown, hbel⟩ : _ ∧ _)
      clear hown hbel hlt hj
      go_upto_region 8 with (fail)
      (refine wp_region_mix [0, 1, 2, 3, 4, 5, 6, 7, 8, 9, 10] [(true, true), (true, true), (true, true), (true, true), (true, true), (true, true), (true, false), (true, true), (true, true), (true, true), (true, true)] [0, 0, 2, 0, 0, 24, 56, 120, 254, 1, 1023] _ (by kernel_rfl) (by kernel_rfl) (rfl : _ = _) ?_; simp only [pickL, List.map_cons, List.map_nil, List.getD_cons_succ, List.getD_cons_zero])
      (repeat (first | (refine mix_pure (fun hne K hK => ?_); go_simp; refine hK _ ?_; clear hK K hne) | (refine mix_load ?_ (fun K hK => ?_); (focus (first | rfl | (go_simp; done))); go_simp; refine hK _ ?_; clear hK K) | (refine mix_skip ?_ (fun K hK => ?_); (focus (first | rfl | (go_simp; done))); go_simp; refine hK _ ?_; clear hK K)))
      refine mix_done ?_
      (try simp only [e3, e2])
      have hmC : ((C.toNat : Nat) : Int) = (m.length : Int) := by have := HM.out.1; omega
      go_wp2_with fail
      go_ret2
      exact ⟨.slice a0 m.length k0, rfl, HY.out.1, HY.out.2.drew⟩
end Go.Proofs.Ytogejjbclimjjaa
