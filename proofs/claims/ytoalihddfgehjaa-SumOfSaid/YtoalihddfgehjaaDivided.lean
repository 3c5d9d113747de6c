/- gabionref02.Divided: the walk. -/
import Derived.Test.YtoalihddfgehjaaKnown
import Derived.Test.YtoalihddfgehjaaDiv
import Derived.Laws.OwnMore
namespace Go.Proofs.Ytoalihddfgehjaa
set_option linter.unusedVariables false
set_option linter.unusedSimpArgs false
open Go.RowKit

abbrev bv (b : Bool) : Value := .int .i64 (if b then 1 else 0)
/-- the bits up to n, as cells -/
def bitRow (f : Nat → Bool) (n : Nat) : List Value := (List.range n).map fun j => bv (f j)
theorem bitRow_length (f : Nat → Bool) (n : Nat) : (bitRow f n).length = n := by simp [bitRow]
theorem bitRow_succ (f : Nat → Bool) (n : Nat) : bitRow f (n + 1) = bitRow f n ++ [bv (f n)] := by simp [bitRow, List.range_succ]
theorem bitRow_get (f : Nat → Bool) (n j : Nat) (h : j < n) : (bitRow f n)[j]? = some (bv (f j)) := by simp [bitRow, h]
theorem bitRow_set (f g : Nat → Bool) (n j : Nat) (b : Bool) (h : ∀ i, i < n → g i = if i = j then b else f i) : (bitRow f n).set j (bv b) = bitRow g n := by
  apply List.ext_getElem
  · simp [bitRow]
  · intro i h1 h2
    simp only [bitRow, List.length_set, List.length_map, List.length_range] at h1
    rw [List.getElem_set]
    simp only [bitRow, List.getElem_map, List.getElem_range]
    rw [h i h1]
    by_cases e : i = j
    · subst e; simp
    · rw [if_neg (Ne.symm e), if_neg e]

theorem infoInt : (Try.prog.info? 3).map (fun i => (i.zero, i.size, i.bytes)) = some (some (.int .i64 0), 1, 8) := by kernel_rfl
theorem own_low {w w' : World} {base e size n : Nat} {v : Value} {xs : List Value} (h : w.ownsRow base e size v n xs) (hb : Below w.heap.size w w') : w'.ownsRow base e size v n xs := by
  obtain ⟨h1, h2⟩ := h
  refine ⟨h1, ?_⟩
  rcases h2 with h2 | ⟨g, cap, cur, hv, hg, hh, r⟩
  · exact .inl h2
  · exact .inr ⟨g, cap, cur, hv, hg, by rw [hb.block g (heap_lt hh)]; exact hh, r⟩
theorem gb_byte (l : List UInt8) (i k : Nat) (hk : k < 8) (hi : i < l.length) : ((l[i].toNat / 2 ^ k : Nat) : Int).tmod 2 = if gb l (8 * i + k) then 1 else 0 := by
  unfold gb
  rw [show (8 * i + k) / 8 = i by omega, show (8 * i + k) % 8 = k by omega]
  have e : l.getD i 0 = l[i] := by simp [List.getD, hi]
  rw [e]
  generalize l[i] = c
  rw [BitVec.getLsbD, Nat.testBit_eq_decide_div_mod_eq, Int.tmod_eq_emod_of_nonneg (Int.natCast_nonneg _)]
  show _ = if decide (c.toNat / 2 ^ k % 2 = 1) = true then (1 : Int) else 0
  generalize c.toNat / 2 ^ k = q
  rcases Nat.mod_two_eq_zero_or_one q with h | h <;> rw [h] <;> simp <;> omega

theorem pb_rem (k : Nat) : ((poly.toNat / 2 ^ k : Nat) : Int).tmod 2 = if pb k then 1 else 0 := by
  unfold pb
  rw [BitVec.getLsbD, Nat.testBit_eq_decide_div_mod_eq, Int.tmod_eq_emod_of_nonneg (Int.natCast_nonneg _)]
  generalize poly.toNat / 2 ^ k = q
  rcases Nat.mod_two_eq_zero_or_one q with h | h <;> rw [h] <;> simp <;> omega
theorem gb_far (l : List UInt8) (j : Nat) (h : 8 * l.length ≤ j) : gb l j = false := by
  unfold gb
  have : l.getD (j / 8) 0 = 0 := by simp [List.getD, show ¬ j / 8 < l.length by omega]
  rw [this]; simp

set_option maxHeartbeats 8000000 in
theorem divided_calls (v : Value) (l : List UInt8) (w : World) (hv : RB w v l) (hl : l.length ≤ 150) :
    Calls Try.prog 21 #[v] w fun e w' => e = .returned (u32v (crcOf l)) ∧ Below w.heap.size w w' := by
  obtain ⟨ti, hti, hz0, hz1, hz2⟩ := info_parts infoInt
  obtain ⟨a, cap, rfl, hcap, hmax⟩ := hv.form
  go_enter Try.func21, Try.ntmps21
  go_wp2_with fail
  go_loopw [3, 4] (fun x3 x4 wr => ∃ i : Nat, i ≤ l.length ∧ x4 = .int .i64 i ∧ wr.ownsRow w.heap.size 3 1 x3 (8 * i) (bitRow (gb l) (8 * i)) ∧ Below w.heap.size w wr) (fun _ x4 _ => l.length - (intOf x4).toNat)
  case atStart => exact ⟨0, Nat.zero_le _, rfl, World.ownsRow_nil _ _ _ _, Below.refl _ _⟩
  case round =>
    obtain ⟨i, hi, rfl, hown, hbel⟩ := hrel
    by_cases hlt : i < l.length
    · obtain ⟨b, o, _, ea, _, _, hc⟩ := (hv.below hbel).out (by omega)
      simp only [Value.slice.injEq] at ea
      obtain ⟨rfl, -, -⟩ := ea
      replace hc := hc i hlt
      have hbits := fun k hk => gb_byte l i k hk hlt
      have HBT := Lib.hid hbits
      have hc8 := l[i].toNat_lt
      generalize l[i] = c at hc HBT hc8
      clear hbits
      go_wp2_with fail
      go_loopw [3, 5, 6] (fun x3 x5 x6 w2 => ∃ k : Nat, k ≤ 8 ∧ x6 = .int .i64 k ∧ x5 = .int .i64 ((c.toNat / 2 ^ k : Nat) : Int) ∧ w2.ownsRow w.heap.size 3 1 x3 (8 * i + k) (bitRow (gb l) (8 * i + k)) ∧ Below w.heap.size w w2) (fun _ _ x6 _ => 8 - (intOf x6).toNat)
      case atStart => exact ⟨0, Nat.zero_le _, rfl, by simp, hown, hbel⟩
      case round =>
        obtain ⟨k, hk, rfl, rfl, hown2, hbel2⟩ := hrel
        by_cases hk8 : k < 8
        · have hm := HBT.out k hk8
          obtain ⟨q, hq⟩ : ∃ q, q = c.toNat / 2 ^ k := ⟨_, rfl⟩
          have hqv : q < 256 := by rw [hq]; exact Nat.lt_of_le_of_lt (Nat.div_le_self _ _) hc8
          have hdv : c.toNat / 2 ^ (k + 1) = q / 2 := by rw [hq, Nat.div_div_eq_div_mul, Nat.pow_succ]
          rw [← hq] at hm ⊢
          have hqq : IntKind.i64.wrap ((q : Int) / 2) = ((q / 2 : Nat) : Int) := by
            rw [show (q : Int) / 2 = ((q / 2 : Nat) : Int) by omega, IntKind.wrap_i64]; omega
          have hnx := bitRow_succ (gb l) (8 * i + k)
          unfold bv at hnx
          generalize hz : (if gb l (8 * i + k) = true then (1 : Int) else 0) = z at hm hnx
          have HN := Lib.hid hnx
          have HD := Lib.hid hdv
          have hsz := hbel2.size
          clear hnx hdv hq hz
          go_wp2_with (at_builtin; refine wpList_append_own _ rfl _ _ 38 rfl w.heap.size 3 ti (.int .i64 0) 1 8 Try.underlying38 hti hz0 hz1 hz2 rfl (by decide) _ _ _ rfl (hown2.alloc _) ⟨wr.heap.size, 0, none⟩ 1 1 [.int .i64 z] rfl rfl ?c1 ?c2 ?c3 ?c4 ?c5 ?_)
          case c1 => exact cell_one_new _ _ _
          case c2 => exact one_cell rfl
          case c3 => unfold maxLen; omega
          case c4 => omega
          case c5 => simp; omega
          intro v' w1 hown' hgrow _
          have hb1 := below_push hbel2 hown2 _ hgrow hsz (Nat.le_refl _)
          go_wp2_with fail
          go_roundw
          case rel => exact ⟨k + 1, by omega, by go_num, by rw [HD.out]; go_num, by rw [← Nat.add_assoc, HN.out]; exact hown', hb1⟩
          case measure => simp [intOf]; omega
        · obtain rfl : k = 8 := by omega
          go_wp2_with fail
          go_roundw
          case rel => exact ⟨i + 1, by omega, by go_num, hown2, hbel2⟩
          case measure => simp [intOf]; omega
    · obtain rfl : i = l.length := by omega
      go_wp2_with fail
      go_loopw [3, 7] (fun x3 x7 wr => ∃ i : Nat, i ≤ 32 ∧ x7 = .int .i64 i ∧ wr.ownsRow w.heap.size 3 1 x3 (8 * l.length + i) (bitRow (gb l) (8 * l.length + i)) ∧ Below w.heap.size w wr) (fun _ x7 _ => 32 - (intOf x7).toNat)
      case atStart => exact ⟨0, Nat.zero_le _, rfl, hown, hbel⟩
      case round =>
        obtain ⟨i, hi, rfl, hown2, hbel2⟩ := hrel
        by_cases hi32 : i < 32
        · have hnx := bitRow_succ (gb l) (8 * l.length + i)
          rw [gb_far l _ (by omega)] at hnx
          have HN := Lib.hid hnx
          have hsz := hbel2.size
          clear hnx hown hbel
          go_wp2_with (at_builtin; refine wpList_append_own _ rfl _ _ 38 rfl w.heap.size 3 ti (.int .i64 0) 1 8 Try.underlying38 hti hz0 hz1 hz2 rfl (by decide) _ _ _ rfl (hown2.alloc _) ⟨wr.heap.size, 0, none⟩ 1 1 [.int .i64 0] rfl rfl ?c1 ?c2 ?c3 ?c4 ?c5 ?_)
          case c1 => exact cell_one_new _ _ _
          case c2 => exact one_cell rfl
          case c3 => unfold maxLen; omega
          case c4 => omega
          case c5 => simp; omega
          intro v' w1 hown' hgrow _
          have hb1 := below_push hbel2 hown2 _ hgrow hsz (Nat.le_refl _)
          go_wp2_with fail
          go_roundw
          case rel => exact ⟨i + 1, by omega, by go_num, by rw [← Nat.add_assoc, HN.out]; exact hown', hb1⟩
          case measure => simp [intOf]; omega
        · obtain rfl : i = 32 := by omega
          rw [show ((32 : Nat) : Int) = 32 from rfl]
          clear hown hbel
          rcases hown2.2 with ⟨_, h0⟩ | ⟨g, gc, _, rfl, hg1, _⟩
          · exfalso; omega
          obtain ⟨N, hN⟩ : ∃ N, N = 8 * l.length + 32 := ⟨_, rfl⟩
          rw [← hN] at hown2 ⊢
          have HNN := Lib.hid hN
          have hN1 : 32 ≤ N := by omega
          have hN2 : N ≤ 1232 := by omega
          clear hN
          go_wp2_with fail
          go_loopw [8] (fun x8 wr => ∃ i : Nat, i ≤ 32 ∧ x8 = .int .i64 i ∧ wr.ownsRow w.heap.size 3 1 (.slice (some ⟨g, 0, none⟩) N gc) N (bitRow (fun j => if j < i then !gb l j else gb l j) N) ∧ Below w.heap.size w wr) (fun x8 _ => 32 - (intOf x8).toNat)
          case atStart => exact ⟨0, Nat.zero_le _, rfl, by simpa using hown2, hbel2⟩
          case round =>
            clear hown2 hbel2
            obtain ⟨i, hi, rfl, hown, hbel⟩ := hrel
            by_cases hi32 : i < 32
            · have hfr := hown.frozenAt i
              have hce := hown.cellAt (j := i) (by omega)
              rw [bitRow_get _ _ _ (by omega), if_neg (by omega)] at hce
              have hst := fun b => hown.stored i (bv b)
              have hiN : i < N := by omega
              have hset := bitRow_set (fun j => if j < i then !gb l j else gb l j) (fun j => if j < i + 1 then !gb l j else gb l j) N i (!gb l i) (fun j _ => by
                by_cases h : j = i
                · subst h; simp
                · rw [if_neg h]
                  by_cases h2 : j < i
                  · rw [if_pos h2, if_pos (by omega)]
                  · rw [if_neg h2, if_neg (by omega)])
              have hst := hown.stored i (bv (!gb l i))
              rw [hset] at hst
              have HST := Lib.hid hst
              clear hset hst
              cases hb : gb l i
              all_goals
                rw [hb] at hce HST
                first
                  | replace hce : wr.cell? ⟨g, i, none⟩ = some (.int .i64 0) := hce
                  | replace hce : wr.cell? ⟨g, i, none⟩ = some (.int .i64 1) := hce
                go_wp2_with fail
                go_roundw
                case rel => exact ⟨i + 1, by omega, by go_num, HST.out.1, hbel.grown HST.out.2 hbel.size fun z hz => (by cases hz; exact hg1)⟩
                case measure => simp [intOf]; omega
            · obtain rfl : i = 32 := by omega
              rw [show ((32 : Nat) : Int) = 32 from rfl]
              have hlow := fun j => own_low (w := wr) (base := w.heap.size) (e := 3) (size := 1) (n := N) (v := .slice (some ⟨g, 0, none⟩) N gc) (xs := bitRow (divN (gb l) 0) N) (w' := j) hown
              have hsz := hbel.size
              obtain ⟨ws, hws⟩ : ∃ ws, ws = wr := ⟨_, rfl⟩
              have hown3 : ws.ownsRow w.heap.size 3 1 (.slice (some ⟨g, 0, none⟩) N gc) N (bitRow (divN (gb l) 0) N) := by rw [hws]; exact hown
              have hg2 : g < ws.heap.size := hown3.lt g rfl |>.2
              have hbel3 : Below w.heap.size w ws := by rw [hws]; exact hbel
              rw [← hws]
              clear hlow hown hbel hws
              go_wp2_with fail
              go_loopw [9, 10, 11] (fun x9 x10 x11 wr => ∃ i : Nat, i ≤ 32 ∧ x11 = .int .i64 i ∧ x10 = .int .i64 ((poly.toNat / 2 ^ i : Nat) : Int) ∧ wr.ownsRow ws.heap.size 3 1 x9 i (bitRow pb i) ∧ Below ws.heap.size ws wr) (fun _ _ x11 _ => 32 - (intOf x11).toNat)
              case atStart => exact ⟨0, Nat.zero_le _, rfl, by simp [poly], World.ownsRow_nil _ _ _ _, Below.refl _ _⟩
              case round =>
                obtain ⟨i, hi, rfl, rfl, hown2, hbel2⟩ := hrel
                by_cases hi32 : i < 32
                · have hm := pb_rem i
                  obtain ⟨q, hq⟩ : ∃ q, q = poly.toNat / 2 ^ i := ⟨_, rfl⟩
                  have hqv : q < 4294967296 := by rw [hq]; exact Nat.lt_of_le_of_lt (Nat.div_le_self _ _) poly.isLt
                  have hdv : poly.toNat / 2 ^ (i + 1) = q / 2 := by rw [hq, Nat.div_div_eq_div_mul, Nat.pow_succ]
                  rw [← hq] at hm ⊢
                  have hqq : IntKind.i64.wrap ((q : Int) / 2) = ((q / 2 : Nat) : Int) := by
                    rw [show (q : Int) / 2 = ((q / 2 : Nat) : Int) by omega, IntKind.wrap_i64]; omega
                  have hnx := bitRow_succ pb i
                  unfold bv at hnx
                  generalize hz : (if pb i = true then (1 : Int) else 0) = z at hm hnx
                  have HN := Lib.hid hnx
                  have HD := Lib.hid hdv
                  have hsz2 := hbel2.size
                  clear hnx hdv hq hz
                  go_wp2_with (at_builtin; refine wpList_append_own _ rfl _ _ 38 rfl ws.heap.size 3 ti (.int .i64 0) 1 8 Try.underlying38 hti hz0 hz1 hz2 rfl (by decide) _ _ _ rfl (hown2.alloc _) ⟨wr.heap.size, 0, none⟩ 1 1 [.int .i64 z] rfl rfl ?c1 ?c2 ?c3 ?c4 ?c5 ?_)
                  case c1 => exact cell_one_new _ _ _
                  case c2 => exact one_cell rfl
                  case c3 => unfold maxLen; omega
                  case c4 => omega
                  case c5 => simp; omega
                  intro v' w1 hown' hgrow _
                  have hb1 := below_push hbel2 hown2 _ hgrow hsz2 (Nat.le_refl _)
                  go_wp2_with fail
                  go_roundw
                  case rel => exact ⟨i + 1, by omega, by go_num, by rw [HD.out]; go_num, by rw [HN.out]; exact hown', hb1⟩
                  case measure => simp [intOf]; omega
                · obtain rfl : i = 32 := by omega
                  rw [show ((32 : Nat) : Int) = 32 from rfl]
                  generalize ((poly.toNat / 2 ^ 32 : Nat) : Int) = z10
                  rcases hown2.2 with ⟨_, h0⟩ | ⟨g2, gc2, _, rfl, hg21, _⟩
                  · exfalso; omega
                  have hrow := own_low hown3 hbel2
                  have hbelr := hbel3.trans (hbel2.mono hbel3.size)
                  clear hown3 hbel3
                  obtain ⟨w5, hw5⟩ : ∃ w5, w5 = wr := ⟨_, rfl⟩
                  rw [← hw5] at hrow hown2 hbelr ⊢
                  clear hw5 hbel2
                  have hL : N = 8 * l.length + 32 := HNN.out
                  obtain ⟨M, hM⟩ : ∃ M, M = 8 * l.length := ⟨_, rfl⟩
                  have hNM1 : M + 32 ≤ N := by omega
                  have hNM2 : N ≤ M + 32 := by omega
                  have HM5 := Lib.hid hM
                  clear hL hM
                  go_wp2_with fail
                  go_loopw [12] (fun x12 wr => ∃ i : Nat, i ≤ M ∧ x12 = .int .i64 i ∧ wr.ownsRow w.heap.size 3 1 (.slice (some ⟨g, 0, none⟩) N gc) N (bitRow (divN (gb l) i) N) ∧ wr.ownsRow ws.heap.size 3 1 (.slice (some ⟨g2, 0, none⟩) 32 gc2) 32 (bitRow pb 32) ∧ Below w.heap.size w wr) (fun x12 _ => M - (intOf x12).toNat)
                  case atStart => exact ⟨0, Nat.zero_le _, rfl, hrow, hown2, hbelr⟩
                  case round =>
                    clear hrow hown2 hbelr
                    obtain ⟨i, hi, rfl, hrow, hprow, hbelr⟩ := hrel
                    by_cases hiM : i < M
                    · have hc : (i : Int) + 32 < (N : Int) := by omega
                      go_wp2_with fail
                      obtain ⟨f, hf⟩ : ∃ f, f = divN (gb l) i := ⟨_, rfl⟩
                      rw [← hf] at hrow
                      have hnx : divN (gb l) (i + 1) = rowN f i 32 := by rw [hf]; rfl
                      have HN5 := Lib.hid hnx
                      clear hf hnx
                      go_loopw [13] (fun x13 wr => ∃ k : Nat, k ≤ 32 ∧ x13 = .int .i64 k ∧ wr.ownsRow w.heap.size 3 1 (.slice (some ⟨g, 0, none⟩) N gc) N (bitRow (rowN f i k) N) ∧ wr.ownsRow ws.heap.size 3 1 (.slice (some ⟨g2, 0, none⟩) 32 gc2) 32 (bitRow pb 32) ∧ Below w.heap.size w wr) (fun x13 _ => 32 - (intOf x13).toNat)
                      case atStart => exact ⟨0, Nat.zero_le _, rfl, by rw [rowN_zero]; exact hrow, hprow, hbelr⟩
                      case round =>
                        clear hrow hprow hbelr
                        obtain ⟨k, hk, rfl, hrow, hprow, hbelr⟩ := hrel
                        by_cases hk32 : k < 32
                        · have hci := hrow.cellAt (j := i) (by omega)
                          rw [bitRow_get _ _ _ (by omega), rowN_at] at hci
                          cases hfi : f i
                          · rw [hfi] at hci
                            replace hci : wr.cell? ⟨g, i, none⟩ = some (.int .i64 0) := hci
                            go_wp2_with fail
                            go_roundw
                            case rel => exact ⟨i + 1, by omega, by go_num, by rw [HN5.out, rowN_none f i 32 hfi]; rwa [rowN_none f i k hfi] at hrow, hprow, hbelr⟩
                            case measure => simp [intOf]; omega
                          · rw [hfi] at hci
                            replace hci : wr.cell? ⟨g, i, none⟩ = some (.int .i64 1) := hci
                            have hck := hprow.cellAt (j := k) (by omega)
                            rw [bitRow_get _ _ _ (by omega)] at hck
                            have hsu := rowN_succ f i k hfi
                            cases hpk : pb k
                            · rw [hpk] at hck hsu
                              replace hck : wr.cell? ⟨g2, k, none⟩ = some (.int .i64 0) := hck
                              have he : rowN f i (k + 1) = rowN f i k := by
                                rw [hsu]; funext j; split <;> simp
                              have HE := Lib.hid he
                              clear hsu he
                              go_wp2_with fail
                              go_roundw
                              case rel => exact ⟨k + 1, by omega, by go_num, by rw [HE.out]; exact hrow, hprow, hbelr⟩
                              case measure => simp [intOf]; omega
                            · rw [hpk] at hck hsu
                              replace hck : wr.cell? ⟨g2, k, none⟩ = some (.int .i64 1) := hck
                              obtain ⟨m, hm⟩ : ∃ m, m = i + 1 + k := ⟨_, rfl⟩
                              have hmN : m < N := by omega
                              have hset := bitRow_set (rowN f i k) (rowN f i (k + 1)) N m (!rowN f i k m) (fun j _ => by
                                rw [hsu, ← hm]
                                show (if j = m then (rowN f i k j ^^ true) else rowN f i k j) = _
                                by_cases h : j = m
                                · subst h; simp
                                · rw [if_neg h, if_neg h])
                              have hcm := hrow.cellAt (j := m) (by omega)
                              rw [bitRow_get _ _ _ (by omega)] at hcm
                              have hfr := hrow.frozenAt m
                              have hst := hrow.stored m (bv (!rowN f i k m))
                              rw [hset] at hst
                              have hp2 := fun u => ownsRow_setCell_below (a := ⟨g, m, none⟩) hprow hg2 u
                              have HST := Lib.hid hst
                              have HP2 := Lib.hid hp2
                              have HM := Lib.hid hm
                              have hmi : (i : Int) + 1 + (k : Int) = (m : Int) := by omega
                              clear hset hst hp2 hsu hm
                              generalize rowN f i k m = b at hcm HST
                              cases b
                              all_goals
                                first
                                  | replace hcm : wr.cell? ⟨g, m, none⟩ = some (.int .i64 0) := hcm
                                  | replace hcm : wr.cell? ⟨g, m, none⟩ = some (.int .i64 1) := hcm
                                go_wp2_with fail
                                go_roundw
                                case rel => exact ⟨k + 1, by omega, by go_num, HST.out.1, HP2.out _, hbelr.grown HST.out.2 hbelr.size fun z hz => (by cases hz; exact hg1)⟩
                                case measure => simp [intOf]; omega
                        · obtain rfl : k = 32 := by omega
                          go_wp2_with fail
                          go_roundw
                          case rel => exact ⟨i + 1, by omega, by go_num, by rw [HN5.out]; exact hrow, hprow, hbelr⟩
                          case measure => simp [intOf]; omega
                    · have hc : ¬ ((i : Int) + 32 < (N : Int)) := by omega
                      obtain rfl : i = M := by omega
                      have hcells : ∀ k, k < 32 → wr.cell? ⟨g, i + (31 - k), none⟩ = some (bv (!(crcOf l).getLsbD (31 - k))) := fun k hk => by
                        rw [hrow.cellAt (j := i + (31 - k)) (by omega), bitRow_get _ _ _ (by omega), ← division l (31 - k) (by omega), ← HM5.out]
                      have HC := Lib.hid hcells
                      have hfin : u32v (crcOf l) = .int .u32 (((crcOf l).toNat / 2 ^ (32 - 32) : Nat) : Int) := by simp
                      have hst0 : (0 : Int) = (((crcOf l).toNat / 2 ^ (32 - 0) : Nat) : Int) := by
                        rw [Nat.div_eq_of_lt (by exact (crcOf l).isLt)]; rfl
                      have HT := Lib.hid (top_down (crcOf l))
                      have hxl := (crcOf l).isLt
                      generalize hcx : crcOf l = x at HC hfin HT hst0 hxl
                      have HCX := Lib.hid hcx
                      clear hcx
                      have HF := Lib.hid hfin
                      have HS := Lib.hid hst0
                      clear hcells hfin hst0 hrow hprow
                      go_wp2_with fail
                      go_loop [14, 15] (fun x14 x15 => ∃ k : Nat, k ≤ 32 ∧ x15 = .int .i64 k ∧ x14 = .int .u32 ((x.toNat / 2 ^ (32 - k) : Nat) : Int)) (fun _ x15 => 32 - (intOf x15).toNat)
                      case atStart => exact ⟨0, Nat.zero_le _, rfl, by rw [← HS.out]⟩
                      case round =>
                        obtain ⟨k, hk, rfl, rfl⟩ := hrel
                        by_cases hk32 : k < 32
                        · have hci := HC.out k hk32
                          have ht := HT.out k hk32
                          rw [show 31 - k = 32 - (k + 1) by omega] at ht hci
                          have hle : x.toNat / 2 ^ (32 - (k + 1)) < 4294967296 := Nat.lt_of_le_of_lt (Nat.div_le_self _ _) hxl
                          have hib : i + (32 - (k + 1)) < N := by omega
                          have hidx : (N : Int) - 1 - (k : Int) = ((i + (32 - (k + 1)) : Nat) : Int) := by omega
                          have HX := Lib.hid (rfl : x.toNat / 2 ^ (32 - (k + 1)) = x.toNat / 2 ^ (32 - (k + 1)))
                          generalize hy2 : x.toNat / 2 ^ (32 - (k + 1)) = y2 at ht hle
                          generalize x.toNat / 2 ^ (32 - k) = y at ht ⊢
                          generalize i + (32 - (k + 1)) = m at hci hidx hib
                          have HY := Lib.hid hy2
                          clear hy2 HX
                          cases hb : x.getLsbD (32 - (k + 1))
                          all_goals
                            rw [hb] at hci ht
                            first
                              | replace hci : wr.cell? ⟨g, m, none⟩ = some (.int .i64 0) := hci
                              | replace hci : wr.cell? ⟨g, m, none⟩ = some (.int .i64 1) := hci
                            first
                              | replace ht : y2 = 2 * y := ht
                              | replace ht : y2 = 2 * y + 1 := ht
                            have hy : y < 2147483648 := by omega
                            have HTT := Lib.hid ht
                            clear ht hb
                            go_wp2_with fail
                            go_round
                            case rel => exact ⟨k + 1, by omega, by go_num, by rw [HY.out, HTT.out]; go_num⟩
                            case measure => simp [intOf]; omega
                        · obtain rfl : k = 32 := by omega
                          rw [← HF.out]
                          go_wp2_with fail
                          go_ret
                          exact ⟨by rw [HCX.out]; rfl, hbelr⟩
end Go.Proofs.Ytoalihddfgehjaa
