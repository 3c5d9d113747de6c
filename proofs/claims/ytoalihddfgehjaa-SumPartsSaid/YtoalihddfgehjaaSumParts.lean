/- SumParts: the walk. -/
import Derived.Test.YtoalihddfgehjaaKnown
import Derived.Test.YtoalihddfgehjaaR2
import Derived.Deep.Slices
import Derived.Lib.SmallJoins
namespace Go.Proofs.Ytoalihddfgehjaa.lawSumParts
set_option linter.unusedVariables false
set_option linter.unusedSimpArgs false
open Go.RowKit Go.ChangeShapes Go.WideShapes Go.Deep

theorem cells22 : Try.prog.cellsOf 22 = 1 := by kernel_rfl

theorem add_zero' (x : Addr) : x.add 0 = x := by unfold Addr.add; simp

/-- rows of bytes that came in -/
theorem open_rows {H : Type} {enc : TypeId × Value → H} {W : World} {v : Value} {d : DataW H} {p : List MemPlace}
    (h : DataW.Trod enc Try.prog W 0 (fun _ => true) true 28 v d p) (hv : ∃ a n c, v = .slice a n c) : ∃ ls : List (List UInt8), RBB W v ls := by
  obtain ⟨fuel, hf⟩ := h
  obtain ⟨a0, n0, c0, rfl⟩ := hv
  rcases open_slice Try.underlying28 hf with ⟨hcs, _⟩ | ⟨x, len, cap, m, n, D, Pl, hcs, _, hl, hm, hmm, _, hcell⟩
  · simp [Value.cells] at hcs
    obtain ⟨rfl, rfl, rfl⟩ := hcs
    exact ⟨[], RBB.nil W⟩
  · simp [Value.cells] at hcs
    obtain ⟨rfl, rfl, rfl⟩ := hcs
    have hmc : m = c0 := by simpa using hmm
    subst hmc
    have each : ∀ i, i < m → ∃ (y : Value) (l : List UInt8), W.cell? (x.add i) = some y ∧ RB W y l := by
      intro i hi
      obtain ⟨cs, hcs, hd⟩ := hcell i hi
      rw [cells22, Nat.mul_one] at hcs
      obtain ⟨y, rfl, hy⟩ : ∃ y, cs = [y] ∧ W.cell? (x.add i) = some y := by
        simp only [World.cells?, Nat.zero_le, if_true] at hcs
        cases hx : W.cell? ((x.add i).add 0) with
        | none => simp [List.range_succ, hx] at hcs
        | some y =>
          simp [List.range_succ, hx] at hcs
          refine ⟨y, hcs.symm, ?_⟩
          have : (x.add i).add 0 = x.add i := add_zero' _
          rw [← this]; exact hx
      obtain ⟨a, l, c, hs⟩ := Go.Joins.slice_form Try.underlying22 hd
      simp only [List.cons.injEq, and_true] at hs
      subst hs
      obtain ⟨r, hr⟩ := open_bytes (W := W) (v := .slice a l c) (d := D i) (p := Pl i) ⟨n, by simpa [Value.cells] using hd⟩ ⟨_, _, _, rfl⟩
      exact ⟨_, r, hy, hr⟩
    by_cases h0 : n0 = 0
    · subst h0
      exact ⟨[], [], ⟨some x, m, rfl, Nat.zero_le _, hm, fun h => (by cases h), .inl rfl⟩, rfl, fun i h1 => by simp at h1⟩
    · obtain ⟨b, off, spot⟩ := x
      obtain ⟨y0, _, hc0, _⟩ := each 0 (by omega)
      have hspot : spot = none := by simpa [Addr.add] using World.cell?_spot hc0
      subst hspot
      simp only [add_plain] at each
      have pick : ∀ k, k ≤ m → ∃ (vs : List Value) (ls : List (List UInt8)), vs.length = k ∧ ls.length = k ∧ (∀ (i : Nat) (h : i < vs.length), W.cell? ⟨b, off + i, none⟩ = some vs[i]) ∧ ∀ (i : Nat) (h1 : i < vs.length) (h2 : i < ls.length), RB W vs[i] ls[i] := by
        intro k
        induction k with
        | zero => intro _; exact ⟨[], [], rfl, rfl, fun i h => by simp at h, fun i h => by simp at h⟩
        | succ k ih =>
          intro hk
          obtain ⟨vs, ls, e1, e2, h1, h2⟩ := ih (by omega)
          obtain ⟨y, l, hy, hl'⟩ := each k (by omega)
          refine ⟨vs ++ [y], ls ++ [l], by simp [e1], by simp [e2], fun i hi => ?_, fun i hi hi2 => ?_⟩
          · by_cases hlt : i < vs.length
            · rw [List.getElem_append_left hlt]; exact h1 i hlt
            · have : i = k := by simp at hi; omega
              subst this
              rw [List.getElem_append_right (by omega)]; simp [e1, hy]
          · by_cases hlt : i < vs.length
            · rw [List.getElem_append_left hlt, List.getElem_append_left (by omega)]; exact h2 i hlt (by omega)
            · have : i = k := by simp at hi; omega
              subst this
              rw [List.getElem_append_right (by omega), List.getElem_append_right (by omega)]; simp [e1, e2, hl']
      obtain ⟨vs, ls, e1, e2, h1, h2⟩ := pick n0 (by omega)
      exact ⟨ls, vs, RV.mk e1.symm hl hm h1, by omega, h2⟩

set_option maxHeartbeats 2000000 in
theorem law (v : Value) (ls : List (List UInt8)) (w : World) (hv : RBB w v ls) :
    Calls Try.prog 4 #[v] w fun e w' => e = .returned (.bool true) ∧ Below w.heap.size w w' := by
  obtain ⟨a, cap, rfl, hcap, hm, hcells⟩ := hv.shape
  by_cases hl : 20 < ls.length
  · go_enter Try.func4, Try.ntmps4
    go_wp2_with fail
    refine (known_calls _).mono ?_
    rintro e w1 ⟨rfl, hb1⟩
    go_wp2_with fail
    go_ret
    exact ⟨rfl, hb1⟩
  · go_enter Try.func4, Try.ntmps4
    go_wp2_with fail
    go_loopw [3, 4] (fun x3 x4 wr => ∃ k : Nat, k ≤ ls.length ∧ x4 = .int .i64 k ∧ wr.ownsRow w.heap.size 5 1 x3 (ls.take k).flatten.length ((ls.take k).flatten.map u8v) ∧ (ls.take k).flatten.length ≤ 300 * k ∧ Below w.heap.size w wr) (fun _ x4 _ => ls.length - (intOf x4).toNat)
    case atStart => exact ⟨0, Nat.zero_le _, rfl, World.ownsRow_nil _ _ _ _, by simp, Below.refl _ _⟩
    case round =>
      obtain ⟨k, hk, rfl, hown, hle, hbel⟩ := hrel
      have hsz := hbel.size
      obtain ⟨n, hn⟩ : ∃ n, n = (ls.take k).flatten.length := ⟨_, rfl⟩
      obtain ⟨m, hm'⟩ : ∃ m, m = (ls.take k).flatten := ⟨_, rfl⟩
      rw [← hn] at hown hle
      rw [← hm'] at hown hn
      have HM := Lib.hid hm'
      have HN := Lib.hid hn
      clear hm' hn
      by_cases hlt : k < ls.length
      · obtain ⟨b, o, rfl, hc⟩ := hcells.resolve_left (by rintro rfl; simp at hlt)
        obtain ⟨x, hx, hx0⟩ := hc k hlt
        clear hc hcells
        have hxw : wr.cell? ⟨b, o + k, none⟩ = some x := below_cell hbel (cell_lt hx) hx
        have hxr : RB wr x ls[k] := hx0.below hbel
        clear hx hx0
        have hflat := flat_next ls k hlt
        obtain ⟨q, hq⟩ : ∃ q, q = ls[k] := ⟨_, rfl⟩
        rw [← hq] at hxr hflat
        rw [← HM.out] at hflat
        have HF := Lib.hid hflat
        clear hflat hq
        obtain ⟨a1, c1, rfl, hc1, hc2⟩ := hxr.form
        unfold maxLen at hc2
        by_cases h300 : 300 < q.length
        · go_wp2_with fail
          refine (known_calls _).mono ?_
          rintro e w1 ⟨rfl, hb1⟩
          go_wp2_with fail
          go_ret
          exact ⟨rfl, hbel.trans (hb1.mono hsz)⟩
        · obtain ⟨i, hi, hz0, hz1, hz2⟩ := info_parts infoU8
          go_wp2_with (at_builtin; refine wpList_append_RV rfl _ _ 22 rfl w.heap.size 5 i (.int .u8 0) 1 Try.underlying22 hi hz0 hz1 hz2 rfl _ _ _ rfl hown _ _ rfl hxr ?c1 ?c2 ?c3 ?c4 ?_)
          case c1 => exact oneCell_u8 _
          case c2 => simp [maxLen]; omega
          case c3 => simp; omega
          case c4 => exact hsz
          intro v' w1 hown' hgrow _
          have hb1 := below_pushed hbel hown hgrow hsz (Nat.le_refl _)
          go_wp2_with fail
          go_roundw
          case rel =>
            refine ⟨k + 1, by omega, by go_num, ?_, ?_, hb1⟩
            · rw [HF.out, List.map_append, List.length_append, ← HN.out]; simpa using hown'
            · rw [HF.out, List.length_append, ← HN.out]; omega
          case measure => simp [intOf]; omega
      · obtain rfl : k = ls.length := by omega
        have hfull : m = ls.flatten := by rw [HM.out, List.take_length]
        have hall : RB wr u3 m := RV.own hown
        obtain ⟨a3, c3, rfl⟩ := own_slice hown
        have hv' := hv.below hbel
        have HF := Lib.hid hfull
        clear hfull hown hcells
        go_wp2_with fail
        refine (known_calls _).mono ?_
        rintro e w1 ⟨rfl, hb1⟩
        have hall1 := hall.below hb1
        go_wp2_with fail
        refine (sum_of _ ls _ (hv'.below hb1)).mono ?_
        rintro e w2 ⟨rfl, rfl⟩
        rw [← HF.out]
        go_wp2_with fail
        refine (ref_of _ m _ hall1).mono ?_
        rintro e w3 ⟨rfl, rfl⟩
        go_wp2_with fail
        refine (sum_of _ [m] _ (RBB.cell1 (cell_is rfl rfl) (hall1.below (by go_grown)))).mono ?_
        rintro e w4 ⟨rfl, rfl⟩
        rw [show [m].flatten = m by simp]
        go_wp2_with fail
        refine (ref_of _ m _ (hall1.below (by go_grown))).mono ?_
        rintro e w5 ⟨rfl, rfl⟩
        go_wp2_with fail
        go_ret
        exact ⟨rfl, hbel.trans (Below.mono (B := wr.heap.size) (hb1.trans (Below.mono (B := w1.heap.size) (by go_grown) hb1.size)) hsz)⟩

theorem walk {H : Type} (enc : TypeId × Value → H) (W : World) (base : Nat) (v0 : Value) (d0 : DataW H) (p0 : List MemPlace)
    (hv0 : Value.okWide Try.prog W .any base 28 v0) (h0 : DataW.Trod enc Try.prog W 0 (fun _ => true) true 28 v0 d0 p0)
    (_hsz : (DataW.weightsEach Try.prog [28] [d0]).all (· ≤ reachBytes) = true) :
    Calls Try.prog 4 #[v0] W fun e W' => e = .returned (.bool true) ∧ Below W.heap.size W W' := by
  obtain ⟨ls, hl⟩ := open_rows h0 (okWide_slice Try.underlying28 hv0)
  exact law v0 ls W hl
end Go.Proofs.Ytoalihddfgehjaa.lawSumParts
