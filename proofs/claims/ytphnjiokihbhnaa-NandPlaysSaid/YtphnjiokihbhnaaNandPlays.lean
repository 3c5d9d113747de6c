/- NandPlays: the walk. -/
--only r2
import Derived.Test.YtphnjiokihbhnaaTwoProg
import Derived.Test.YtphnjiokihbhnaaKeptLaw
import Derived.Test.YtphnjiokihbhnaaOpenPlays
import Derived.Test.YtphnjiokihbhnaaTwoMade
import Derived.Test.YtphnjiokihbhnaaEvents
import Derived.Test.YtphnjiokihbhnaaNandGets
import Derived.Test.YtphnjiokihbhnaaNandDump
import Derived.Test.YtphnjiokihbhnaaRefDump
import Derived.Deep.DeepCutAuto
namespace Go.Proofs.Ytphnjiokihbhnaa.lawNandPlays
set_option linter.unusedVariables false
set_option linter.unusedSimpArgs false
open Go.RowKit Go.ChangeShapes Go.WideShapes

/-- a pair that is no block of a small shape -/
def Wrong (k : Nat) (x : Int × Int) : Prop := x.1 < 0 ∨ (k : Int) < x.1 ∨ x.2 < 0 ∨ 15 < x.2
instance (k : Nat) (x : Int × Int) : Decidable (Wrong k x) := by unfold Wrong; infer_instance
theorem bads_iff (k : Nat) (bads : List (Int × Int)) : badsOk k 16 bads ↔ ∀ x ∈ bads, ¬ Wrong k x := by
  unfold badsOk Wrong
  constructor
  · intro h x hx; have := h x hx; omega
  · intro h x hx; have := h x hx; omega

set_option maxRecDepth 100000 in
set_option maxHeartbeats 6000000 in
theorem law (chips : Int) (vb : Value) (bads : List (Int × Int)) (ea : Option Addr) (ec : Nat) (xs : List Ev) (r : Value) (row : List POp) (w : World) (hb : RPair w vb bads) (he : REv w ea ec xs (fun _ => True)) (hxi : ∀ x ∈ xs, I64 x.op ∧ I64 x.kind ∧ I64 x.chip) (hv : ROps w r row) (hI : ∀ x ∈ row, x.Ok) :
    Calls Try.prog 5 #[.agg #[.int .i64 chips, vb, .slice ea xs.length ec, r]] w (IsTrue w) := by
  obtain ⟨av, cv, rfl, hlc, hmc, hrow⟩ := id hv
  obtain ⟨ab, cb, rfl, hlb, hmb, hpair⟩ := id hb
  unfold maxLen at hmc hmb
  have hlx := he.1
  have hmx := he.2.1
  unfold maxLen at hmx
  clear hrow hpair
  have hfin : ∀ w', Below w.heap.size w w' → IsTrue w (.returned (.bool true)) w' := fun w' h => ⟨rfl, h⟩
  generalize IsTrue w = Post at hfin ⊢
  have HF := Lib.hid hfin
  have HI := Lib.hid hI
  have HXI := Lib.hid hxi
  have HV := Lib.hid hv
  have HBD := Lib.hid hb
  clear hfin hI hxi hv hb
  have hal := (Below.refl w.heap.size w).alloc (Nat.le_refl _) (.cells #[.int .i64 chips, .slice ab bads.length cb, .slice ea xs.length ec, .slice av row.length cv] 52)
  have hQ : (w.alloc (.cells #[.int .i64 chips, .slice ab bads.length cb, .slice ea xs.length ec, .slice av row.length cv] 52)).heap[w.heap.size]? = some (.cells #[.int .i64 chips, .slice ab bads.length cb, .slice ea xs.length ec, .slice av row.length cv] 52 (0, 0)) := heap_is rfl
  obtain ⟨q, hq⟩ : ∃ q, q = w.heap.size := ⟨_, rfl⟩
  generalize hw0 : w.alloc (.cells #[.int .i64 chips, .slice ab bads.length cb, .slice ea xs.length ec, .slice av row.length cv] 52) = w0 at hal hQ
  have HW := Lib.hid hw0
  clear hw0
  have hev0 := events_calls ea ec xs w0.drew (he.below hal.drew)
  have HE := Lib.hid he
  have HEV := Lib.hid hev0
  clear he hev0
  go_enter Try.func5, Try.ntmps5
  go_wp2_with fail
  rw [HW.out, ← hq]
  rw [← hq] at hQ
  have s0 := cells_at hQ 0 _ rfl
  have s1 := cells_at hQ 1 _ rfl
  have s2 := cells_at hQ 2 _ rfl
  have s3 := cells_at hQ 3 _ rfl
  have hlq := heap_lt hQ
  clear hq HW hQ
  (refine wp_region_mix [0, 1, 2, 3, 4, 5, 6, 7, 8, 9, 10, 11] [(true, true), (true, false), (true, true), (true, false), (true, true), (true, false), (true, true), (true, false), (true, true), (true, true), (true, true), (true, true)] [0, 1, 0, 4, 0, 16, 0, 64, 3, 271, 831, 2047] _ (by kernel_rfl) (by kernel_rfl) (rfl : _ = _) ?_; simp only [pickL, List.map_cons, List.map_nil, List.getD_cons_succ, List.getD_cons_zero])
  (repeat (first | (refine mix_pure (fun hne K hK => ?_); go_simp; refine hK _ ?_; clear hK K hne) | (refine mix_load ?_ (fun K hK => ?_); (focus (first | rfl | (go_simp; done))); go_simp; refine hK _ ?_; clear hK K) | (refine mix_skip ?_ (fun K hK => ?_); (focus (first | rfl | (go_simp; done))); go_simp; refine hK _ ?_; clear hK K)))
  refine mix_done ?_
  clear s0 s1 s2 s3 hlq
  go_wp2_with fail
  refine HEV.out.mono ?_
  rintro e w1 ⟨hb1, hcase⟩
  have hB1 := hal.drew.trans (hb1.mono hal.size)
  clear hb1 hal HEV
  rcases hcase with ⟨hsm, oa, oc, rfl, hout⟩ | ⟨hsm, rfl⟩
  rotate_left
  · go_wp2_with fail
    refine (begun_calls w1).mono ?_
    rintro e w2 ⟨rfl, hb2⟩
    have hB2 := hB1.trans (hb2.mono hB1.size)
    go_wp2_with fail
    refine (begun_calls w2).mono ?_
    rintro e w3 ⟨rfl, hb3⟩
    have HX := Lib.hid (HF.out _ (hB2.trans (hb3.mono hB2.size)))
    go_wp2_with fail
    exact HX.out
  · have HSM := Lib.hid hsm
    have HO := Lib.hid hout
    clear hsm hout
    by_cases hbl : 20 < bads.length
    · go_wp2_with fail
      refine (begun_calls w1).mono ?_
      rintro e w2 ⟨rfl, hb2⟩
      have hB2 := hB1.trans (hb2.mono hB1.size)
      go_wp2_with fail
      refine (begun_calls w2).mono ?_
      rintro e w3 ⟨rfl, hb3⟩
      have HX := Lib.hid (HF.out _ (hB2.trans (hb3.mono hB2.size)))
      go_wp2_with fail
      exact HX.out
    · by_cases hrl : 120 < row.length
      · go_wp2_with fail
        refine (begun_calls w1).mono ?_
        rintro e w2 ⟨rfl, hb2⟩
        have hB2 := hB1.trans (hb2.mono hB1.size)
        go_wp2_with fail
        refine (begun_calls w2).mono ?_
        rintro e w3 ⟨rfl, hb3⟩
        have HX := Lib.hid (HF.out _ (hB2.trans (hb3.mono hB2.size)))
        go_wp2_with fail
        exact HX.out
      · go_wp2_with fail
        refine (begun_calls w1).mono ?_
        rintro e w2 ⟨rfl, hb2⟩
        have hB2 := hB1.trans (hb2.mono hB1.size)
        have hO2 := HO.out.only (Only.new hb2 fun _ => False) (fun _ _ => False.elim) (fun _ _ => False.elim)
        have hoT : ∀ x, xs ≠ [] → oa.map (·.block) = some x → x < w2.heap.size := fun x hx hh => by
          obtain ⟨-, -, -, h4⟩ := hO2
          obtain ⟨b', o, h5, -, h6⟩ := h4.resolve_left hx
          obtain ⟨v, c0, -⟩ := h6 0 (by cases xs; exact absurd rfl hx; simp)
          rw [h5] at hh
          have hh : some b' = some x := hh
          cases hh
          exact cell_lt c0
        have HO2 := Lib.hid (⟨hO2, hoT⟩ : _ ∧ _)
        clear HO hO2 hoT hB1 hb2
        go_wp2_with fail
        obtain ⟨k, hk, -, -, hshape⟩ := shape_calls chips w2
        refine hshape.mono ?_
        rintro e w3 ⟨rfl, hb3⟩
        have hB3 := hB2.trans (hb3.mono hB2.size)
        clear hshape
        go_wp2_with fail
        have hal4 := (Below.refl w3.heap.size w3).alloc (Nat.le_refl _) (.cells #[.int .i64 k, .int .i64 16, .int .i64 4, .int .i64 256] 29)
        have hG : (w3.alloc (.cells #[.int .i64 k, .int .i64 16, .int .i64 4, .int .i64 256] 29)).heap[w3.heap.size]? = some (.cells #[.int .i64 k, .int .i64 16, .int .i64 4, .int .i64 256] 29 (0, 0)) := heap_is rfl
        obtain ⟨qg, hqg⟩ : ∃ qg, qg = w3.heap.size := ⟨_, rfl⟩
        rw [← hqg] at hG ⊢
        have hB4 := hB3.trans (hal4.mono hB3.size)
        have hO4 := HO2.out.1.only ((Only.new hb3 fun _ => False).trans (Only.new hal4 fun _ => False) fun _ _ h => h) (fun _ _ => False.elim) (fun _ _ => False.elim)
        have hs24 := Nat.le_trans hb3.size hal4.size
        have hoT4 : ∀ x, xs ≠ [] → oa.map (·.block) = some x → x < (w3.alloc (.cells #[.int .i64 k, .int .i64 16, .int .i64 4, .int .i64 256] 29)).heap.size := fun x h1 h2 => Nat.lt_of_lt_of_le (HO2.out.2 x h1 h2) hs24
        generalize w3.alloc (.cells #[.int .i64 k, .int .i64 16, .int .i64 4, .int .i64 256] 29) = w4 at hal4 hG hB4 hO4 hoT4 hs24 ⊢
        have hok : evsOk xs := fun x hx => ⟨by have := HSM.out.2 x hx; omega, HXI.out x hx⟩
        have hnew := new_calls k 16 4 256 (.slice ab bads.length cb) bads ea ec xs w4 (HBD.out.below hB4) (by omega) (HE.out.below hB4) (by have := HSM.out.1; omega) hok
        obtain ⟨good, hgood⟩ : ∃ good : Prop, good = (∀ x ∈ bads, ¬ Wrong k x) := ⟨_, rfl⟩
        have hgk : geoOk k 16 4 256 := by unfold geoOk; omega
        have hnew2 : Calls Try.prog 10 #[geoV k 16 4 256, .slice ab bads.length cb, .slice ea xs.length ec] w4 fun e w' => ∃ (a : Option Addr) (en : Nat), e = .returned (.tuple #[.pointer a, .int .i64 en]) ∧ Below w4.heap.size w4 w' ∧ (good → en = 0 ∧ ∃ L, a = some ⟨L.p, 0, none⟩ ∧ NdAt true w' L (Nd.fresh k 16 4 256 (badOf bads) xs) ∧ ∀ x, L.tag x ≠ .none → w4.heap.size ≤ x) ∧ (¬ good → en = 34 ∧ a = none) := by
          refine hnew.mono fun e w' h => ?_
          by_cases hg : good
          · obtain ⟨L, rfl, hN, ht, hbb⟩ := h.1 ⟨hgk, by have := HSM.out.1; omega, (bads_iff k bads).mpr (hgood ▸ hg)⟩
            exact ⟨_, 0, rfl, hbb, fun _ => ⟨rfl, L, rfl, hN, ht⟩, fun hn => absurd hg hn⟩
          · obtain ⟨rfl, hbb⟩ := h.2 (fun hh => hg (hgood ▸ (bads_iff k bads).mp hh.2.2))
            exact ⟨none, 34, rfl, hbb, fun h => absurd h hg, fun _ => ⟨rfl, rfl⟩⟩
        have HGD := Lib.hid (⟨hgood, hk, hgk, hok⟩ : _ ∧ _ ∧ _ ∧ _)
        have HNW := Lib.hid hnew2
        have H4 := Lib.hid (⟨hB4, hG, hO4, hoT4⟩ : _ ∧ _ ∧ _ ∧ _)
        clear hgood hk hgk hok hnew hnew2 hB4 hG hO4 hoT4 hs24 hal4 hb3 hB3 hB2 HO2 hqg
        refine HNW.out.mono ?_
        rintro e w5 ⟨a, en, rfl, hb5, hyes, hno⟩
        have hB5 := H4.out.1.trans (hb5.mono H4.out.1.size)
        have hG5 := heap_keep hb5 H4.out.2.1
        have H5 := Lib.hid (⟨hB5, hG5, hyes, hno, hb5⟩ : _ ∧ _ ∧ _ ∧ _ ∧ _)
        clear hb5 hyes hno hB5 hG5 HNW
        go_wp2_with fail
        go_loopw [13] (fun i wr => ∃ j : Nat, j ≤ bads.length ∧ i = .int .i64 j ∧ (∀ x ∈ bads.take j, ¬ Wrong k x) ∧ Below w5.heap.size w5 wr) (fun i _ => bads.length - (intOf i).toNat)
        case atStart => exact ⟨0, Nat.zero_le _, rfl, (fun x hx => by simp at hx), Below.refl _ _⟩
        case round =>
          obtain ⟨j, hj, rfl, hgd, hbel⟩ := hrel
          by_cases hlt : j < bads.length
          · have hlt' : (j : Int) < (bads.length : Int) := by omega
            have hBr := H5.out.1.trans (hbel.mono H5.out.1.size)
            obtain ⟨a2, cap2, e2, -, -, hx⟩ := HBD.out.below hBr
            obtain ⟨bb, bo, rfl, hy⟩ := hx.resolve_left (fun e => by rw [e] at hlt; simp at hlt)
            simp only [Value.slice.injEq] at e2
            obtain ⟨rfl, -, rfl⟩ := e2
            obtain ⟨y0, y1⟩ := hy j hlt
            have hbb := cell_lt y0
            have g0 := cells_at (heap_keep hbel H5.out.2.1) 0 _ rfl
            simp only [List.getElem_toArray, List.getElem_cons_succ, List.getElem_cons_zero] at g0
            have hlg := cell_lt g0
            have htk : bads.take (j + 1) = bads.take j ++ [bads[j]] := List.take_succ_eq_append_getElem hlt
            have hbad : Wrong k bads[j] → ¬ good := fun h hg => by rw [HGD.out.1] at hg; exact hg _ (List.getElem_mem hlt) h
            generalize bads[j] = x at y0 y1 htk hbad
            obtain ⟨x0, x1⟩ := x
            simp only at y0 y1
            obtain ⟨D, hDD⟩ : ∃ D, D = decide (Wrong k (x0, x1)) := ⟨_, rfl⟩
            have hD1 : D = true → Wrong k (x0, x1) := fun h => of_decide_eq_true (hDD.symm.trans h)
            have hD0 : D = false → ¬ Wrong k (x0, x1) := fun h => of_decide_eq_false (hDD.symm.trans h)
            have HD := Lib.hid (⟨hD1, hD0, hbad, htk, hgd, hbel, hBr, hlt⟩ : _ ∧ _ ∧ _ ∧ _ ∧ _ ∧ _ ∧ _ ∧ _)
            clear hDD hD1 hD0 hbad htk hgd hbel hBr hy hx
            go_upto_region 10 with (fail)
            go_cut [96] (fun s96 wx => s96 = .bool D ∧ wx = wr.drew)
            case first =>
              by_cases h1 : x0 < 0
              · have e1 := decide_eq_true h1
                have hDt : D = true := by
                  cases D
                  · exact absurd (.inl h1) (HD.out.2.1 rfl)
                  · rfl
                subst hDt
                clear hlt
                (refine wp_region_mix [0, 1, 2, 3, 4, 5, 6, 7, 8, 9, 10, 11, 12, 13, 14, 15, 16, 17, 18, 19, 20, 21, 22, 23, 24, 25, 26, 27, 28, 29, 30, 31] [(true, true), (true, true), (true, true), (true, true), (true, false), (true, true), (true, true), (true, true), (true, true), (true, true), (true, true), (true, false), (true, true), (true, false), (true, true), (true, true), (true, true), (true, true), (true, true), (true, true), (true, true), (true, false), (true, true), (true, true), (true, true), (true, true), (true, true), (true, true), (true, true), (true, false), (true, true), (true, true)] [0, 0, 3, 7, 15, 31, 63, 127, 127, 511, 1023, 2047, 127, 4223, 16383, 32767, 65535, 131071, 131071, 524287, 1048575, 2097151, 4194303, 8388607, 16777215, 33554431, 33554431, 134217727, 268435455, 536870911, 1073741823, 2147483647] _ (by kernel_rfl) (by kernel_rfl) (rfl : _ = _) ?_; simp only [pickL, List.map_cons, List.map_nil, List.getD_cons_succ, List.getD_cons_zero])
                (repeat (first | (refine mix_pure (fun hne K hK => ?_); go_simp; refine hK _ ?_; clear hK K hne) | (refine mix_load ?_ (fun K hK => ?_); (focus (first | rfl | (go_simp; done))); go_simp; refine hK _ ?_; clear hK K) | (refine mix_skip ?_ (fun K hK => ?_); (focus (first | rfl | (go_simp; done))); go_simp; refine hK _ ?_; clear hK K)))
                refine mix_done ?_
                go_wp2_with fail
                go_meet
                case rel => exact ⟨rfl, rfl⟩
              · have e1 := decide_eq_false h1
                by_cases h2 : (k : Int) < x0
                · have e2 := decide_eq_true h2
                  have hDt : D = true := by
                    cases D
                    · exact absurd (.inr (.inl h2)) (HD.out.2.1 rfl)
                    · rfl
                  subst hDt
                  clear hlt
                  (refine wp_region_mix [0, 1, 2, 3, 4, 5, 6, 7, 8, 9, 10, 11, 12, 13, 14, 15, 16, 17, 18, 19, 20, 21, 22, 23, 24, 25, 26, 27, 28, 29, 30, 31] [(true, true), (true, true), (true, true), (true, true), (true, false), (true, true), (true, true), (true, true), (true, true), (true, true), (true, true), (true, false), (true, true), (true, false), (true, true), (true, true), (true, true), (true, true), (true, true), (true, true), (true, true), (true, false), (true, true), (true, true), (true, true), (true, true), (true, true), (true, true), (true, true), (true, false), (true, true), (true, true)] [0, 0, 3, 7, 15, 31, 63, 127, 127, 511, 1023, 2047, 127, 4223, 16383, 32767, 65535, 131071, 131071, 524287, 1048575, 2097151, 4194303, 8388607, 16777215, 33554431, 33554431, 134217727, 268435455, 536870911, 1073741823, 2147483647] _ (by kernel_rfl) (by kernel_rfl) (rfl : _ = _) ?_; simp only [pickL, List.map_cons, List.map_nil, List.getD_cons_succ, List.getD_cons_zero])
                  (repeat (first | (refine mix_pure (fun hne K hK => ?_); go_simp; refine hK _ ?_; clear hK K hne) | (refine mix_load ?_ (fun K hK => ?_); (focus (first | rfl | (go_simp; done))); go_simp; refine hK _ ?_; clear hK K) | (refine mix_skip ?_ (fun K hK => ?_); (focus (first | rfl | (go_simp; done))); go_simp; refine hK _ ?_; clear hK K)))
                  refine mix_done ?_
                  go_wp2_with fail
                  go_meet
                  case rel => exact ⟨rfl, rfl⟩
                · have e2 := decide_eq_false h2
                  by_cases h3 : x1 < 0
                  · have e3 := decide_eq_true h3
                    have hDt : D = true := by
                      cases D
                      · exact absurd (.inr (.inr (.inl h3))) (HD.out.2.1 rfl)
                      · rfl
                    subst hDt
                    clear hlt
                    (refine wp_region_mix [0, 1, 2, 3, 4, 5, 6, 7, 8, 9, 10, 11, 12, 13, 14, 15, 16, 17, 18, 19, 20, 21, 22, 23, 24, 25, 26, 27, 28, 29, 30, 31] [(true, true), (true, true), (true, true), (true, true), (true, false), (true, true), (true, true), (true, true), (true, true), (true, true), (true, true), (true, false), (true, true), (true, false), (true, true), (true, true), (true, true), (true, true), (true, true), (true, true), (true, true), (true, false), (true, true), (true, true), (true, true), (true, true), (true, true), (true, true), (true, true), (true, false), (true, true), (true, true)] [0, 0, 3, 7, 15, 31, 63, 127, 127, 511, 1023, 2047, 127, 4223, 16383, 32767, 65535, 131071, 131071, 524287, 1048575, 2097151, 4194303, 8388607, 16777215, 33554431, 33554431, 134217727, 268435455, 536870911, 1073741823, 2147483647] _ (by kernel_rfl) (by kernel_rfl) (rfl : _ = _) ?_; simp only [pickL, List.map_cons, List.map_nil, List.getD_cons_succ, List.getD_cons_zero])
                    (repeat (first | (refine mix_pure (fun hne K hK => ?_); go_simp; refine hK _ ?_; clear hK K hne) | (refine mix_load ?_ (fun K hK => ?_); (focus (first | rfl | (go_simp; done))); go_simp; refine hK _ ?_; clear hK K) | (refine mix_skip ?_ (fun K hK => ?_); (focus (first | rfl | (go_simp; done))); go_simp; refine hK _ ?_; clear hK K)))
                    refine mix_done ?_
                    go_wp2_with fail
                    go_meet
                    case rel => exact ⟨rfl, rfl⟩
                  · have e3 := decide_eq_false h3
                    by_cases h4 : 15 < x1
                    · have e4 := decide_eq_true h4
                      have hDt : D = true := by
                        cases D
                        · exact absurd (.inr (.inr (.inr h4))) (HD.out.2.1 rfl)
                        · rfl
                      subst hDt
                      clear hlt
                      (refine wp_region_mix [0, 1, 2, 3, 4, 5, 6, 7, 8, 9, 10, 11, 12, 13, 14, 15, 16, 17, 18, 19, 20, 21, 22, 23, 24, 25, 26, 27, 28, 29, 30, 31] [(true, true), (true, true), (true, true), (true, true), (true, false), (true, true), (true, true), (true, true), (true, true), (true, true), (true, true), (true, false), (true, true), (true, false), (true, true), (true, true), (true, true), (true, true), (true, true), (true, true), (true, true), (true, false), (true, true), (true, true), (true, true), (true, true), (true, true), (true, true), (true, true), (true, false), (true, true), (true, true)] [0, 0, 3, 7, 15, 31, 63, 127, 127, 511, 1023, 2047, 127, 4223, 16383, 32767, 65535, 131071, 131071, 524287, 1048575, 2097151, 4194303, 8388607, 16777215, 33554431, 33554431, 134217727, 268435455, 536870911, 1073741823, 2147483647] _ (by kernel_rfl) (by kernel_rfl) (rfl : _ = _) ?_; simp only [pickL, List.map_cons, List.map_nil, List.getD_cons_succ, List.getD_cons_zero])
                      (repeat (first | (refine mix_pure (fun hne K hK => ?_); go_simp; refine hK _ ?_; clear hK K hne) | (refine mix_load ?_ (fun K hK => ?_); (focus (first | rfl | (go_simp; done))); go_simp; refine hK _ ?_; clear hK K) | (refine mix_skip ?_ (fun K hK => ?_); (focus (first | rfl | (go_simp; done))); go_simp; refine hK _ ?_; clear hK K)))
                      refine mix_done ?_
                      go_wp2_with fail
                      go_meet
                      case rel => exact ⟨rfl, rfl⟩
                    · have e4 := decide_eq_false h4
                      have hDt : D = false := by
                        cases D
                        · rfl
                        · exact absurd (HD.out.1 rfl) (fun h => by rcases h with h | h | h | h <;> simp only at h <;> omega)
                      subst hDt
                      clear hlt
                      (refine wp_region_mix [0, 1, 2, 3, 4, 5, 6, 7, 8, 9, 10, 11, 12, 13, 14, 15, 16, 17, 18, 19, 20, 21, 22, 23, 24, 25, 26, 27, 28, 29, 30, 31] [(true, true), (true, true), (true, true), (true, true), (true, false), (true, true), (true, true), (true, true), (true, true), (true, true), (true, true), (true, false), (true, true), (true, false), (true, true), (true, true), (true, true), (true, true), (true, true), (true, true), (true, true), (true, false), (true, true), (true, true), (true, true), (true, true), (true, true), (true, true), (true, true), (true, false), (true, true), (true, true)] [0, 0, 3, 7, 15, 31, 63, 127, 127, 511, 1023, 2047, 127, 4223, 16383, 32767, 65535, 131071, 131071, 524287, 1048575, 2097151, 4194303, 8388607, 16777215, 33554431, 33554431, 134217727, 268435455, 536870911, 1073741823, 2147483647] _ (by kernel_rfl) (by kernel_rfl) (rfl : _ = _) ?_; simp only [pickL, List.map_cons, List.map_nil, List.getD_cons_succ, List.getD_cons_zero])
                      (repeat (first | (refine mix_pure (fun hne K hK => ?_); go_simp; refine hK _ ?_; clear hK K hne) | (refine mix_load ?_ (fun K hK => ?_); (focus (first | rfl | (go_simp; done))); go_simp; refine hK _ ?_; clear hK K) | (refine mix_skip ?_ (fun K hK => ?_); (focus (first | rfl | (go_simp; done))); go_simp; refine hK _ ?_; clear hK K)))
                      refine mix_done ?_
                      go_wp2_with fail
                      go_meet
                      case rel => exact ⟨rfl, rfl⟩
            case rest =>
              obtain ⟨rfl, rfl⟩ := hcut
              obtain ⟨hD1, hD0, hbad, htk, hgd, hbel, hBr, hlt⟩ := HD.out
              cases D with
              | true =>
                have hn := H5.out.2.2.2.1 (hbad (hD1 rfl))
                have HX := Lib.hid (HF.out _ hBr.drew)
                clear hD1 hD0 hbad htk hgd hbel hBr H5
                obtain ⟨rfl, rfl⟩ := hn
                go_wp2_with fail
                exact HX.out
              | false =>
                have hgd2 : ∀ y ∈ bads.take (j + 1), ¬ Wrong k y := fun y hy => by
                  rw [htk] at hy
                  rcases List.mem_append.mp hy with h | h
                  · exact hgd y h
                  · obtain rfl := List.mem_singleton.mp h; exact hD0 rfl
                have HX := Lib.hid (⟨hgd2, hbel.drew, hlt⟩ : _ ∧ _ ∧ _)
                clear hD1 hD0 hbad htk hgd hbel hBr hgd2
                go_wp2_with fail
                obtain ⟨hgd2, hbel2, hlt⟩ := HX.out
                go_roundw
                case rel => exact ⟨j + 1, hlt, by go_num, hgd2, hbel2⟩
                case measure => simp [intOf]; omega
          · obtain rfl : j = bads.length := by omega
            rw [List.take_length] at hgd
            have hg : good := by rw [HGD.out.1]; exact hgd
            obtain ⟨hen, L, haL, hN, ht⟩ := H5.out.2.2.1 hg
            have hN6 := hN.below hbel
            have hBr := H5.out.1.trans (hbel.mono H5.out.1.size)
            have g0 := cells_at (heap_keep hbel H5.out.2.1) 0 _ rfl
            simp only [List.getElem_toArray, List.getElem_cons_succ, List.getElem_cons_zero] at g0
            have hlg := cell_lt g0
            obtain ⟨hB4, hG4, hO4, hoT4⟩ := H4.out
            have hb45 := H5.out.2.2.2.2
            have hO6 := (hO4.below (hb45.trans (hbel.mono hb45.size)))
            have hs46 : w4.heap.size ≤ wr.heap.size := Nat.le_trans hb45.size hbel.size
            have hrn := rnew_calls k 16 4 256 (.slice ab bads.length cb) bads oa oc xs wr (HBD.out.below hBr) (by omega) (hO6.mono fun _ _ _ => trivial) HGD.out.2.2.1 (by have := HSM.out.1; omega) HGD.out.2.2.2 ((bads_iff k bads).mpr hgd)
            have HRN := Lib.hid hrn
            have HA := Lib.hid (⟨hN6, ht, hBr, hs46, (heap_keep hbel H5.out.2.1)⟩ : _ ∧ _ ∧ _ ∧ _ ∧ _)
            clear hrn hN hN6 ht hBr hO6 hO4 hoT4 hB4 hG4 hb45 hs46 hbel hgd H5
            subst hen
            subst haL
            go_wp2_with fail
            refine HRN.out.mono ?_
            rintro e w6 ⟨Lm, rfl, hM, hLm, hb6, hea⟩
            obtain ⟨hN6, ht, hBr, hs46, hG6⟩ := HA.out
            obtain ⟨hB4, -, -, hoT4⟩ := H4.out
            obtain ⟨Lm', hmp, hT⟩ := two_made (z := w4.heap.size) hN6 ht hM hLm hb6 (fun x h1 h2 => hoT4 x h1 (by rw [hea] at h2; exact h2)) (Nat.le_refl _) hs46
            have hL0 : ∃ La' Lm'' A, La'.p = L.p ∧ Lm''.p = Lm.p ∧ Two w4.heap.size w6 La' Lm'' A A ∧ (A.mem = k ∧ A.blk = 16) ∧ A.ops ≤ 0 ∧ Below w.heap.size w w6 ∧ w6.heap[qg]? = some (.cells #[.int .i64 k, .int .i64 16, .int .i64 4, .int .i64 256] 29 (0, 0)) :=
              ⟨L, Lm', _, rfl, hmp, hT, ⟨rfl, rfl⟩, Nat.le_refl _, hBr.trans (hb6.mono hBr.size), heap_keep hb6 hG6⟩
            have HZ4 := Lib.hid (⟨hB4.size, heap_lt (H4.out.2.1)⟩ : w.heap.size ≤ w4.heap.size ∧ qg < w4.heap.size)
            clear hT hM hLm hb6 hea hmp hN6 ht hBr hs46 hG6 hB4 hoT4 HA HRN H4 g0 hlg
            generalize L.p = pa at hL0 ⊢
            generalize Lm.p = pm at hL0 ⊢
            go_wp2_with fail
            go_loopw [15] (fun i wr => ∃ j : Nat, j ≤ row.length ∧ i = .int .i64 j ∧ ∃ La' Lm'' A, La'.p = pa ∧ Lm''.p = pm ∧ Two w4.heap.size wr La' Lm'' A A ∧ (A.mem = k ∧ A.blk = 16) ∧ A.ops ≤ j ∧ Below w.heap.size w wr ∧ wr.heap[qg]? = some (.cells #[.int .i64 k, .int .i64 16, .int .i64 4, .int .i64 256] 29 (0, 0))) (fun i _ => row.length - (intOf i).toNat)
            case atStart => exact ⟨0, Nat.zero_le _, rfl, hL0⟩
            case round =>
              clear hL0
              obtain ⟨j, hj, rfl, La', Lm', A, rfl, rfl, hT, hsh, hAo, hbel, hG⟩ := hrel
              by_cases hlt : j < row.length
              · obtain ⟨a2, cap2, e2, -, -, hx⟩ := HV.out.below hbel
                obtain ⟨bb, bo, rfl, hy⟩ := hx.resolve_left (fun e => by rw [e] at hlt; simp at hlt)
                simp only [Value.slice.injEq] at e2
                obtain ⟨rfl, -, rfl⟩ := e2
                obtain ⟨y0, y1, y2, y3, y4, y5⟩ := hy j hlt
                have hbb := cell_lt y0
                have hxok := HI.out _ (List.getElem_mem hlt)
                generalize row[j] = x at y0 y1 y2 y3 y4 y5 hxok
                have hAo' : A.ops < 1000000 := by omega
                have hdone := done_calls hT.drew x hxok hAo' hAo'
                have hcnt := done_count A x
                have hsh2 := done_shape A x
                rw [hsh.1, hsh.2] at hsh2
                have hops2 : (A.done x).ops ≤ j + 1 := Nat.le_trans hcnt (by omega)
                have HH := Lib.hid (⟨hdone, hT, hbel, hG, hlt, hsh2, hops2⟩ : _ ∧ _ ∧ _ ∧ _ ∧ _ ∧ _ ∧ _)
                have hlt' : (j : Int) < (row.length : Int) := by omega
                clear hdone hT hbel hG hAo hAo' hxok hy hx hsh hsh2 hops2 hcnt
                obtain ⟨xk, xc, xb, xp, xd, xs'⟩ := x
                simp only at y0 y1 y2 y3 y4 y5
                go_wp2_with fail
                (refine wp_region_mix [0, 1, 2, 3, 4, 5, 6, 7, 8, 9, 11, 12, 13, 14, 10, 15, 16, 17, 18, 20, 21, 22, 23, 19, 24, 25] [(true, true), (true, true), (true, true), (true, true), (true, true), (true, false), (false, false), (true, true), (true, true), (true, true), (true, true), (true, true), (true, true), (true, false), (false, true), (true, true), (true, true), (true, true), (true, true), (true, true), (true, true), (true, true), (true, false), (false, true), (true, true), (true, true)] [0, 0, 0, 0, 12, 28, 63, 127, 255, 511, 1023, 511, 2559, 6655, 14847, 32767, 65535, 131071, 262143, 524287, 262143, 1310719, 3407871, 7602175, 16777215, 33554431] _ (by kernel_rfl) (by kernel_rfl) (rfl : _ = _) ?_; simp only [pickL, List.map_cons, List.map_nil, List.getD_cons_succ, List.getD_cons_zero])
                (repeat (first | (refine mix_pure (fun hne K hK => ?_); go_simp; refine hK _ ?_; clear hK K hne) | (refine mix_load ?_ (fun K hK => ?_); (focus (first | rfl | (go_simp; done))); go_simp; refine hK _ ?_; clear hK K) | (refine mix_skip ?_ (fun K hK => ?_); (focus (first | rfl | (go_simp; done))); go_simp; refine hK _ ?_; clear hK K)))
                (refine mix_one (by first | rfl | (go_simp; done)) (fun R hR hX => ?_))
                go_wp2_with fail
                refine HH.out.1.mono ?_
                rintro e w9 ⟨r9, La2, Lm2, rfl, hr, hpa, hpm, hT2, hO2⟩
                obtain rfl : r9 = true := hr rfl
                obtain ⟨-, hT, hbel, hG, hlt, hsh2, hops2⟩ := HH.out
                generalize Nd.done A ⟨xk, xc, xb, xp, xd, xs'⟩ = A2 at hT2 hsh2 hops2
                have hO2' := (Only.of_drew (fun x => La'.S x ∨ Lm'.S x) wr).trans hO2 fun _ _ h => h
                have hbel2 := hbel.trans (hO2'.below hbel.size (fun y hy h => by have := hT.lo y h; have := HZ4.out.1; omega))
                have hG2 := hO2'.at hG (fun h => by have := hT.lo _ h; have := HZ4.out.2; omega)
                have hTm := hT2.m.top
                simp only [topCells, Bool.false_eq_true, if_false] at hTm
                have t7 : w9.cell? ⟨Lm2.p, 7, none⟩ = some (.int .i64 A2.ops) := cells_at hTm 7 _ rfl
                have t8 : w9.cell? ⟨Lm2.p, 8, none⟩ = some (.bool A2.off) := cells_at hTm 8 _ rfl
                have hlm := heap_lt hTm
                rw [hpm] at t7 t8 hlm
                have ho1 := ops_calls hT2.a
                have ho2 := off_calls hT2.a
                rw [hpa] at ho1 ho2
                have HX := Lib.hid (⟨hpa, hpm, hT2, hsh2, hops2, hbel2, hG2, hlt⟩ : _ ∧ _ ∧ _ ∧ _ ∧ _ ∧ _ ∧ _ ∧ _)
                have HO12 := Lib.hid (⟨ho1, ho2⟩ : _ ∧ _)
                clear hpa hpm hT2 hsh2 hops2 hbel2 hG2 hO2 hO2' hT hbel hG hTm ho1 ho2 HH hr
                go_wp2_with fail
                ((try simp only [wpList]); refine hR _ _ rfl ⟨fun w' => w' = _, rfl, (fun h => by cases h), ?_⟩; clear hR hX R)
                (repeat (first | (refine mix_pure (fun hne K hK => ?_); go_simp; refine hK _ ?_; clear hK K hne) | (refine mix_load ?_ (fun K hK => ?_); (focus (first | rfl | (go_simp; done))); go_simp; refine hK _ ?_; clear hK K) | (refine mix_skip ?_ (fun K hK => ?_); (focus (first | rfl | (go_simp; done))); go_simp; refine hK _ ?_; clear hK K)))
                (refine mix_one (by first | rfl | (go_simp; done)) (fun R hR hX => ?_))
                go_wp2_with fail
                refine HO12.out.1.mono ?_
                rintro e w10 ⟨rfl, rfl⟩
                go_wp2_with fail
                refine hR _ _ rfl ⟨fun w' => w' = _, rfl, (fun _ => rfl), ?_⟩
                clear hR hX R
                (repeat (first | (refine mix_pure (fun hne K hK => ?_); go_simp; refine hK _ ?_; clear hK K hne) | (refine mix_load ?_ (fun K hK => ?_); (focus (first | rfl | (go_simp; done))); go_simp; refine hK _ ?_; clear hK K) | (refine mix_skip ?_ (fun K hK => ?_); (focus (first | rfl | (go_simp; done))); go_simp; refine hK _ ?_; clear hK K)))
                (refine mix_one (by first | rfl | (go_simp; done)) (fun R hR hX => ?_))
                go_wp2_with fail
                refine HO12.out.2.mono ?_
                rintro e w11 ⟨rfl, rfl⟩
                go_wp2_with fail
                refine hR _ _ rfl ⟨fun w' => w' = _, rfl, (fun _ => rfl), ?_⟩
                clear hR hX R
                (repeat (first | (refine mix_pure (fun hne K hK => ?_); go_simp; refine hK _ ?_; clear hK K hne) | (refine mix_load ?_ (fun K hK => ?_); (focus (first | rfl | (go_simp; done))); go_simp; refine hK _ ?_; clear hK K) | (refine mix_skip ?_ (fun K hK => ?_); (focus (first | rfl | (go_simp; done))); go_simp; refine hK _ ?_; clear hK K)))
                refine mix_done ?_
                clear t7 t8 HO12
                go_wp2_with fail
                obtain ⟨hpa, hpm, hT2, hsh2, hops2, hbel2, hG2, hlt⟩ := HX.out
                go_roundw
                case rel => exact ⟨j + 1, hlt, by go_num, La2, Lm2, A2, hpa, hpm, hT2, hsh2, hops2, hbel2, hG2⟩
                case measure => simp [intOf]; omega
              · have HT := Lib.hid (⟨hT, hsh, hbel, hG⟩ : _ ∧ _ ∧ _ ∧ _)
                have hnE : ∀ c : Nat, c ≤ k → ∀ w', Below wr.heap.size wr w' → Calls Try.prog 22 #[ptrV La'.p, .int .i64 c] w' fun e w'' => ∃ x, e = .returned x ∧ w''.ownsRow w'.heap.size 3 1 x 16 ((List.range 16).map fun b => Value.int .i64 (A.erases c b)) ∧ Below w'.heap.size w' w'' := fun c hc w' hb => by
                  have := erases_calls (hT.a.below hb) c (by rw [hsh.1]; exact hc)
                  rw [hsh.2] at this
                  exact this
                have HNE := Lib.hid hnE
                clear hT hsh hbel hG hAo hnE
                generalize wr = wz at HT HNE ⊢
                have g0 := cells_at HT.out.2.2.2 0 _ rfl
                simp only [List.getElem_toArray, List.getElem_cons_succ, List.getElem_cons_zero] at g0
                go_wp2_with fail
                clear g0
                go_loopw [16] (fun i wr => ∃ c : Nat, c ≤ k + 1 ∧ i = .int .i64 c ∧ Below wz.heap.size wz wr) (fun i _ => k + 1 - (intOf i).toNat)
                case atStart => exact ⟨0, Nat.zero_le _, rfl, Below.refl _ _⟩
                case round =>
                  generalize wr = wc at hrel ⊢
                  obtain ⟨c, hc, rfl, hbc⟩ := hrel
                  obtain ⟨hT, hsh, hbel, hG⟩ := HT.out
                  have g0 := cells_at (heap_keep hbc hG) 0 _ rfl
                  simp only [List.getElem_toArray, List.getElem_cons_succ, List.getElem_cons_zero] at g0
                  have hlg := cell_lt g0
                  have hk4 := HGD.out.2.1
                  have hk17 : k ≤ 4 := by omega
                  by_cases hck : c ≤ k
                  · have hck' : (c : Int) ≤ (k : Int) := by omega
                    have HB := Lib.hid (⟨hbc, hck⟩ : _ ∧ _)
                    clear hT hsh hbel hG hbc hk4
                    go_wp2_with fail
                    refine (HNE.out c HB.out.2 wc HB.out.1).mono ?_
                    rintro e w7 ⟨x7, rfl, hx7, hb7⟩
                    obtain ⟨a7, k7, rfl⟩ := own_slice hx7
                    obtain ⟨hT, hsh, hbel, hG⟩ := HT.out
                    have hbz := HB.out.1.trans (hb7.mono HB.out.1.size)
                    have hTz := hT.below hbz
                    have hTm := hTz.m.top
                    simp only [topCells, Bool.false_eq_true, if_false] at hTm
                    have t5 : w7.cell? ⟨Lm'.p, 5, none⟩ = some (.slice (some ⟨Lm'.dd, 0, none⟩) (A.mem + 1) Lm'.dc) := cells_at hTm 5 _ rfl
                    rw [hsh.1] at t5
                    have td := hTz.m.dead.cell (o := c) (by have := hsh.1; omega)
                    have hlm := heap_lt hTm
                    have hld := cell_lt td
                    have hdd := dead_calls hTz.drew.a c (by have := hsh.1; omega)
                    have hc1 : (c : Int) < (k : Int) + 1 := by omega
                    have HDD := Lib.hid hdd
                    have H7 := Lib.hid (⟨hx7, hbz, hTz, hsh⟩ : _ ∧ _ ∧ _ ∧ _)
                    clear hdd hx7 hbz hTz hsh hT hbel hG hTm hb7 g0 hlg
                    go_wp2_with fail
                    (refine wp_region_mix [0, 1, 3, 4, 5, 6, 7, 8, 9, 2, 10, 11, 12, 13, 14, 15] [(true, true), (true, true), (true, true), (true, true), (true, true), (true, false), (true, true), (true, true), (true, false), (false, true), (true, true), (true, true), (true, true), (true, true), (true, true), (true, true)] [0, 0, 3, 0, 8, 24, 56, 0, 248, 504, 1023, 2047, 4095, 8191, 16383, 32767] _ (by kernel_rfl) (by kernel_rfl) (rfl : _ = _) ?_; simp only [pickL, List.map_cons, List.map_nil, List.getD_cons_succ, List.getD_cons_zero])
                    (repeat (first | (refine mix_pure (fun hne K hK => ?_); go_simp; refine hK _ ?_; clear hK K hne) | (refine mix_load ?_ (fun K hK => ?_); (focus (first | rfl | (go_simp; done))); go_simp; refine hK _ ?_; clear hK K) | (refine mix_skip ?_ (fun K hK => ?_); (focus (first | rfl | (go_simp; done))); go_simp; refine hK _ ?_; clear hK K)))
                    (refine mix_one (by first | rfl | (go_simp; done)) (fun R hR hX => ?_))
                    go_wp2_with fail
                    refine HDD.out.mono ?_
                    rintro e w8 ⟨rfl, rfl⟩
                    go_wp2_with fail
                    refine hR _ _ rfl ⟨Eq _, rfl, (fun _ => rfl), ?_⟩
                    clear hR hX R
                    (repeat (first | (refine mix_pure (fun hne K hK => ?_); go_simp; refine hK _ ?_; clear hK K hne) | (refine mix_load ?_ (fun K hK => ?_); (focus (first | rfl | (go_simp; done))); go_simp; refine hK _ ?_; clear hK K) | (refine mix_skip ?_ (fun K hK => ?_); (focus (first | rfl | (go_simp; done))); go_simp; refine hK _ ?_; clear hK K)))
                    refine mix_done ?_
                    clear t5 td hlm hld HDD
                    go_wp2_with fail
                    go_loopw [18] (fun i wr => ∃ b : Nat, b ≤ 16 ∧ i = .int .i64 b ∧ Below w7.heap.size w7 wr) (fun i _ => 16 - (intOf i).toNat)
                    case atStart => exact ⟨0, Nat.zero_le _, rfl, (Below.refl _ _).drew⟩
                    case round =>
                      generalize wr = wb at hrel ⊢
                      obtain ⟨b, hb, rfl, hbb⟩ := hrel
                      by_cases hb16 : b < 16
                      · have hb16' : (b : Int) < 16 := by omega
                        obtain ⟨hx7, hbz, hTz, hsh⟩ := H7.out
                        have hTb := hTz.below hbb
                        have hTm := hTb.m.top
                        simp only [topCells, Bool.false_eq_true, if_false] at hTm
                        have t4 : wb.cell? ⟨Lm'.p, 4, none⟩ = some (.slice (some ⟨Lm'.cs, 0, none⟩) (A.mem + 1) Lm'.cc) := cells_at hTm 4 _ rfl
                        rw [hsh.1] at t4
                        have hlm := heap_lt hTm
                        have tc := hTb.m.chips.cell (o := c) (by have := hsh.1; omega)
                        have hlc := cell_lt tc
                        rw [hsh.2] at tc
                        have te := (hTb.m.blk c (by have := hsh.1; omega)).cell (o := b * 4 + 2) (by have := hsh.2; omega)
                        rw [blkCells2] at te
                        have hle := cell_lt te
                        have hRV : RV wb (.slice a7 16 k7) ((List.range 16).map fun b => Value.int .i64 (A.erases c b)) := (RV.own hx7).below hbb
                        obtain ⟨nb, no, ncap, e3, -, -, hcell⟩ := hRV.out (by simp)
                        simp only [List.length_map, List.length_range, Value.slice.injEq, true_and] at e3
                        obtain ⟨rfl, rfl⟩ := e3
                        have hn := hcell b (by simpa using hb16)
                        simp only [List.getElem_map, List.getElem_range] at hn
                        have hln := cell_lt hn
                        have HX := Lib.hid (⟨hbb.drew, hb16⟩ : _ ∧ _)
                        clear hx7 hbz hTz hsh hTb hTm hRV hcell hbb
                        generalize A.erases c b = er at hn te
                        go_wp2_with fail
                        (refine wp_region_mix [0, 1, 2, 3, 4, 5, 6, 7, 8, 9, 10, 11, 12, 13, 14, 15] [(true, true), (true, true), (true, true), (true, false), (true, true), (true, true), (true, true), (true, false), (true, true), (true, true), (true, false), (true, true), (true, true), (true, true), (true, false), (true, true)] [0, 0, 3, 7, 0, 16, 48, 112, 0, 496, 1008, 0, 4080, 8176, 16368, 32767] _ (by kernel_rfl) (by kernel_rfl) (rfl : _ = _) ?_; simp only [pickL, List.map_cons, List.map_nil, List.getD_cons_succ, List.getD_cons_zero])
                        (repeat (first | (refine mix_pure (fun hne K hK => ?_); go_simp; refine hK _ ?_; clear hK K hne) | (refine mix_load ?_ (fun K hK => ?_); (focus (first | rfl | (go_simp; done))); go_simp; refine hK _ ?_; clear hK K) | (refine mix_skip ?_ (fun K hK => ?_); (focus (first | rfl | (go_simp; done))); go_simp; refine hK _ ?_; clear hK K)))
                        refine mix_done ?_
                        clear t4 tc te hn
                        go_wp2_with fail
                        go_roundw
                        case rel => exact ⟨b + 1, HX.out.2, by go_num, HX.out.1⟩
                        case measure => have := HX.out.2; simp [intOf]; omega
                      · have HX := Lib.hid (H7.out.2.1.trans (hbb.mono H7.out.2.1.size))
                        have hck2 := HB.out.2
                        obtain rfl : b = 16 := by omega
                        clear hbb
                        go_wp2_with fail
                        go_roundw
                        case rel => exact ⟨c + 1, by have := HB.out.2; omega, by go_num, HX.out⟩
                        case measure => have := HB.out.2; simp [intOf]; omega
                  · obtain rfl : c = k + 1 := by omega
                    have hTz := hT.below hbc
                    have hbw := hbel.trans (hbc.mono hbel.size)
                    have hnd := ndump_calls hTz.a
                    have HND := Lib.hid (⟨hnd, hTz, hbw⟩ : _ ∧ _ ∧ _)
                    clear hnd hTz hbw hT hsh hbel hG hbc
                    have hkk : ¬ (k : Int) + 1 ≤ (k : Int) := by omega
                    go_wp2_with fail
                    refine HND.out.1.mono ?_
                    rintro e w7 ⟨x7, rfl, hx7, hb7⟩
                    obtain ⟨a7, k7, rfl⟩ := own_slice hx7
                    have hT7 := HND.out.2.1.below hb7
                    have hrd := rdump_calls hT7.m
                    have hx7' : RB w7 (.slice a7 (dumpB A).length k7) (dumpB A) := RV.own hx7
                    have HRD := Lib.hid (⟨hrd, hx7', HND.out.2.2.trans (hb7.mono HND.out.2.2.size)⟩ : _ ∧ _ ∧ _)
                    clear hrd hx7 hx7' hT7 hb7 HND
                    go_wp2_with fail
                    refine HRD.out.1.mono ?_
                    rintro e w8 ⟨x8, rfl, hx8, hb8⟩
                    obtain ⟨a8, k8, rfl⟩ := own_slice hx8
                    have hx8' : RB w8 (.slice a8 (dumpB A).length k8) (dumpB A) := RV.own hx8
                    have hs := rsame_calls _ _ (dumpB A) (dumpB A) w8 (HRD.out.2.1.below hb8) hx8'
                    rw [decide_eq_true rfl] at hs
                    have HS := Lib.hid hs
                    have HX := Lib.hid (HF.out _ (HRD.out.2.2.trans (hb8.mono HRD.out.2.2.size)))
                    clear hs hx8 hx8' hb8 HRD
                    generalize (dumpB A).length = dl at *
                    go_wp2_with fail
                    refine HS.out.mono ?_
                    rintro e w9 ⟨rfl, rfl⟩
                    go_wp2_with fail
                    exact HX.out

set_option maxRecDepth 100000 in
theorem walk {H : Type} (enc : TypeId × Value → H) (W : World) (base : Nat) (v0 : Value) (d0 : DataW H) (p0 : List MemPlace)
    (hv0 : Value.okWide Try.prog W .any base 52 v0) (h0 : DataW.Trod enc Try.prog W 0 (fun _ => true) true 52 v0 d0 p0)
    (_hsz : (DataW.weightsEach Try.prog [52] [d0]).all (· ≤ reachBytes) = true) :
    Calls Try.prog 5 #[v0] W fun e W' => e = .returned (.bool true) ∧ Below W.heap.size W W' := by
  obtain ⟨chips, vb, bads, ea, ec, xs, r, os, rfl, h1, h2, h3, h4, h5⟩ := open_plays h0 hv0
  exact law chips vb bads ea ec xs r os W h1 h2 h3 h4 h5
end Go.Proofs.Ytphnjiokihbhnaa.lawNandPlays
