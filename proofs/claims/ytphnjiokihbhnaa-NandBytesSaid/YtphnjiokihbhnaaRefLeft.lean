/- gabionref04: the bytes that an event leaves. -/
--only r2
import Derived.Test.YtphnjiokihbhnaaRefRead
namespace Go.Proofs.Ytphnjiokihbhnaa
set_option linter.unusedVariables false
set_option linter.unusedSimpArgs false
open Go.RowKit

set_option maxRecDepth 100000 in
set_option maxHeartbeats 2000000 in
theorem rleft_calls {w : World} {L : NdLay} {M : Nd} (h : NdAt false w L M) (x : Ev) (v : Value) (hv : RB w v x.left) (hx : x.left.length ≤ 1000) :
    Calls Try.prog 59 #[ptrV L.p, evV x v] w fun e w' => ∃ y, e = .returned y ∧ RB w' y (leftOf M.siz x.left) ∧ Below w.heap.size w w' := by
  have hT := h.top
  have hsz := h.ok.siz
  simp only [topCells, Bool.false_eq_true, if_false] at hT
  obtain ⟨n, hn⟩ : ∃ n, n = M.siz + 64 := ⟨_, rfl⟩
  have hzc : ∀ w, Calls Try.prog 12 #[.int .i64 ((M.siz : Int) + 64)] w fun e w' => e = .returned (.slice (some ⟨w.heap.size, 0, none⟩) n n) ∧ w' = w.alloc (.cells (List.replicate n (Value.int .u8 0)).toArray 5) := fun w => by
    have := zeros_calls n w (by omega)
    rw [hn, Int.natCast_add, show ((64 : Nat) : Int) = 64 from rfl, ← hn] at this
    exact this
  have hn2 : n ≤ 2000 := by omega
  have hn1 : 0 < n := by omega
  obtain ⟨va, vc, rfl, -, -⟩ := hv.form
  have t3 := cells_at hT 3 _ rfl
  simp only [List.getElem_toArray, List.getElem_cons_succ, List.getElem_cons_zero] at t3
  obtain ⟨xo, xk, xc, xl⟩ := x
  simp only [evV] at hv hx ⊢
  have hlt := heap_lt hT
  have hl : leftOf M.siz xl = (List.range n).map (leftF xl) := by rw [hn]; rfl
  have HL := Lib.hid hl
  have HZC := Lib.hid hzc
  have HV := Lib.hid hv
  have hXB : (w.alloc (.cells #[.int .i64 xo, .int .i64 xk, .int .i64 xc, .slice va xl.length vc] 103)).heap[w.heap.size]? = some (.cells #[.int .i64 xo, .int .i64 xk, .int .i64 xc, .slice va xl.length vc] 103 (0, 0)) := heap_is rfl
  have hbel := (Below.refl w.heap.size w).alloc (Nat.le_refl _) (.cells #[.int .i64 xo, .int .i64 xk, .int .i64 xc, .slice va xl.length vc] 103)
  have hPost : ∀ w' y, RB w' y (leftOf M.siz xl) → Below w.heap.size w w' → ∃ z, Ending.returned y = .returned z ∧ RB w' z (leftOf M.siz xl) ∧ Below w.heap.size w w' := fun w' y h1 h2 => ⟨y, rfl, h1, h2⟩
  clear hn hl hzc h hT
  go_enter Try.func59, Try.ntmps59
  go_wp2_with fail
  refine (HZC.out _).mono ?_
  have hv1 := hv.below hbel
  obtain ⟨q, hq⟩ : ∃ q, q = w.heap.size := ⟨_, rfl⟩
  rw [← hq] at hXB
  rw [← hq]
  have hqw : w.heap.size ≤ q := by omega
  clear hq HZC t3 hv
  generalize (w.alloc (.cells #[.int .i64 xo, .int .i64 xk, .int .i64 xc, .slice va xl.length vc] 103)) = w1 at hXB hbel hv1 ⊢
  rintro e w2 ⟨rfl, hw2⟩
  have hb2 : Below w1.heap.size w1 w2 := by rw [hw2]; exact (Below.refl _ _).alloc (Nat.le_refl _) _
  have hA : w2.heap[w1.heap.size]? = some (.cells ((fillTo (leftF xl) n 0).map u8v).toArray 5 (0, 0)) := by
    rw [hw2, fillTo_zero, rep_u8]; exact heap_new _ _
  have hX2 := heap_keep hb2 hXB
  have hB2 := hbel.trans (hb2.mono hbel.size)
  have hv2 := hv1.below hb2
  obtain ⟨q2, hq2⟩ : ∃ q, q = w1.heap.size := ⟨_, rfl⟩
  have hqq : q < q2 := by rw [hq2]; exact heap_lt hXB
  rw [← hq2] at hA
  rw [← hq2]
  have hq2w : w.heap.size ≤ q2 := by omega
  clear hw2 hXB hbel hb2 hv1 hq2
  by_cases hz : xl.length = 0
  · have hx3 := cells_at hX2 3 _ rfl
    have hlx := heap_lt hX2
    simp only [List.getElem_toArray, List.getElem_cons_succ, List.getElem_cons_zero] at hx3
    have hall : RB w2 (.slice (some ⟨q2, 0, none⟩) n n) (leftOf M.siz xl) := by
      have e : leftOf M.siz xl = fillTo (leftF xl) n 0 := by
        rw [HL.out, fillTo_zero]
        apply List.ext_getElem
        · simp
        · intro i h1 h2
          simp [leftF, hz]
      rw [e]
      exact RB.block hA (by rw [fillTo_length]) (Nat.le_refl _) (by unfold maxLen; omega)
    have HX := Lib.hid (hPost _ _ hall hB2)
    rw [hz] at hx3
    clear hPost hall hB2 hv2 hA hX2
    go_wp2_with fail
    go_loopw [6] (fun i wr => i = .int .i64 0 ∧ wr = w2) (fun i _ => 0)
    case atStart => exact ⟨rfl, rfl⟩
    case round =>
      obtain ⟨rfl, rfl⟩ := hrel
      go_wp2_with fail
      go_ret
      exact HX.out
  · have hpos : 0 < xl.length := by omega
    clear hz
    go_wp2_with fail
    go_loopw [6] (fun i wr => ∃ k : Nat, k ≤ n ∧ i = .int .i64 k ∧ wr.heap[q]? = some (.cells #[.int .i64 xo, .int .i64 xk, .int .i64 xc, .slice va xl.length vc] 103 (0, 0)) ∧ wr.heap[q2]? = some (.cells ((fillTo (leftF xl) n k).map u8v).toArray 5 (0, 0)) ∧ Below w.heap.size w wr ) (fun i _ => n - (intOf i).toNat)
    case atStart => exact ⟨0, Nat.zero_le _, rfl, hX2, hA, hB2⟩
    case round =>
      obtain ⟨k, hk, rfl, hXB, hAB, hbel⟩ := hrel
      have hlx := heap_lt hXB
      have hx3 := cells_at hXB 3 _ rfl
      simp only [List.getElem_toArray, List.getElem_cons_succ, List.getElem_cons_zero] at hx3
      by_cases hlt : k < n
      · obtain ⟨c0, hc0⟩ := fillTo_cell hAB hlt
        have hf := froz_at hAB k
        have hlq2 := heap_lt hAB
        have hstep : ∀ u : UInt8, u = leftF xl k → (wr.setCell ⟨q2, k, none⟩ (u8v u)).heap[q]? = some (.cells #[.int .i64 xo, .int .i64 xk, .int .i64 xc, .slice va xl.length vc] 103 (0, 0)) ∧ (wr.setCell ⟨q2, k, none⟩ (u8v u)).heap[q2]? = some (.cells ((fillTo (leftF xl) n (k + 1)).map u8v).toArray 5 (0, 0)) ∧ Below w.heap.size w (wr.setCell ⟨q2, k, none⟩ (u8v u)) := fun u hu => by
          have := set_at (o := k) hAB (u8v u)
          rw [hu, fillTo_set _ _ _ hlt, ← hu] at this
          exact ⟨set_other (a := ⟨q2, k, none⟩) _ hXB (by show ¬ q = q2; omega), this, hbel.setCell (by show w.heap.size ≤ q2; omega) _⟩
        obtain ⟨eb, eo, ec, he, -, -, hcell⟩ := (HV.out.below hbel).out hpos
        have hmod : k % xl.length < xl.length := Nat.mod_lt _ hpos
        have hc := hcell _ hmod
        have hbe := cell_lt hc
        simp only [Value.slice.injEq] at he
        obtain ⟨rfl, -, rfl⟩ := he
        have hgd : xl[k % xl.length] = leftF xl k := by unfold leftF; rw [if_neg (by omega)]; simp [List.getD, hmod]
        have HG := Lib.hid hgd
        have hmi : ((k : Int).tmod (xl.length : Int)) = ((k % xl.length : Nat) : Int) := by rw [Int.tmod_eq_emod_of_nonneg (by omega)]; omega
        generalize k % xl.length = j at hmod hc hgd HG hmi
        have hji : (j : Int) < xl.length := by omega
        have hkn : (k : Int) < n := by omega
        have hxn : ¬ xl = [] := fun e => by rw [e] at hpos; simp at hpos
        have hpi : decide ((0 : Int) < xl.length) = true := by simp; omega
        have HS := Lib.hid hstep
        clear hcell hgd hstep hAB hXB hX2 hA hv2
        go_wp2_with fail
        (refine wp_region_mix [0, 1, 2, 3, 4, 5, 6, 7, 8, 9, 10, 11, 12] [(true, true), (true, true), (true, true), (true, false), (true, true), (true, true), (true, false), (true, true), (true, true), (true, true), (true, false), (true, true), (false, false)] [0, 0, 0, 4, 0, 0, 32, 96, 240, 508, 1020, 2047, 4095] _ (by kernel_rfl) (by kernel_rfl) (rfl : _ = _) ?_; simp only [pickL, List.map_cons, List.map_nil, List.getD_cons_succ, List.getD_cons_zero])
        (repeat (first | (refine mix_pure (fun hne K hK => ?_); go_simp; refine hK _ ?_; clear hK K hne) | (refine mix_load ?_ (fun K hK => ?_); (focus (first | rfl | (go_simp; done))); go_simp; refine hK _ ?_; clear hK K) | (refine mix_skip ?_ (fun K hK => ?_); (focus (first | rfl | (go_simp; done))); go_simp; refine hK _ ?_; clear hK K)))
        (refine mix_one (by first | rfl | (go_simp; done)) (fun R hR hX => ?_))
        go_wp2_with fail
        ((try simp only [wpList]); refine hR _ _ rfl ⟨fun w' => w' = _, rfl, (fun h => by cases h), ?_⟩; clear hR hX R)
        refine mix_done ?_
        go_wp2_with fail
        obtain ⟨s1, s2, s3⟩ := HS.out _ HG.out
        go_roundw
        case rel => exact ⟨k + 1, by omega, by go_num, s1, s2, s3.drew⟩
        case measure => simp [intOf]; omega
      · obtain rfl : k = n := by omega
        have hall : RB wr (.slice (some ⟨q2, 0, none⟩) k k) (leftOf M.siz xl) := by
          have e : leftOf M.siz xl = fillTo (leftF xl) k k := by rw [fillTo_all, HL.out]
          rw [e]
          exact RB.block hAB (by rw [fillTo_length]) (Nat.le_refl _) (by unfold maxLen; omega)
        have HX := Lib.hid (hPost _ _ hall hbel)
        clear hPost hall hAB hX2 hA hv2 hXB
        go_wp2_with fail
        go_ret
        exact HX.out
end Go.Proofs.Ytphnjiokihbhnaa
