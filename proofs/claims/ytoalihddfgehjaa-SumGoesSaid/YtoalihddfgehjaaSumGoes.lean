/- SumGoes: the walk. -/
import Derived.Test.YtoalihddfgehjaaKnown
import Derived.Test.YtoalihddfgehjaaR2
import Derived.Test.YtoalihddfgehjaaMix
import Derived.StillTailTactics
import Derived.Deep.QuietTactic
import Derived.BigQuiet
namespace Go.Proofs.Ytoalihddfgehjaa.lawSumGoes
set_option linter.unusedVariables false
set_option linter.unusedSimpArgs false
open Go.RowKit Go.ChangeShapes Go.WideShapes

theorem crcOf_three (a b c : List UInt8) (h1 : b.length = a.length) (h2 : c.length = a.length) : crcOf a ^^^ crcOf b ^^^ crcOf c = crcOf (xorl (xorl a b) c) := by
  have hl : (xorl a b).length = c.length := by simp [xorl, h1, h2]
  unfold crcOf
  have e1 := crcFold_xor a b h1.symm 4294967295#32 4294967295#32
  have e2 := crcFold_xor (xorl a b) c hl (4294967295#32 ^^^ 4294967295#32) 4294967295#32
  rw [e1] at e2
  rw [show (4294967295#32 ^^^ 4294967295#32 ^^^ 4294967295#32 : BitVec 32) = 4294967295#32 by rfl] at e2
  rw [e2]
  generalize crcFold 4294967295#32 a = x
  generalize crcFold 4294967295#32 b = y
  generalize crcFold 4294967295#32 c = z
  rw [← BitVec.xor_allOnes (x := x), ← BitVec.xor_allOnes (x := y), ← BitVec.xor_allOnes (x := z), ← BitVec.xor_allOnes (x := x ^^^ y ^^^ z)]
  have : x ^^^ BitVec.allOnes 32 ^^^ (y ^^^ BitVec.allOnes 32) ^^^ (z ^^^ BitVec.allOnes 32) = (x ^^^ y ^^^ z ^^^ BitVec.allOnes 32) ^^^ (BitVec.allOnes 32 ^^^ BitVec.allOnes 32) := by ac_rfl
  rw [this, BitVec.xor_self, BitVec.xor_zero]

theorem bits_xor8 (s t : UInt8) : bits .xor .u8 (s.toNat : Int) (t.toNat : Int) = ((s ^^^ t).toNat : Int) := by
  show IntKind.u8.wrap ((BitVec.ofInt 8 (s.toNat : Int) ^^^ BitVec.ofInt 8 (t.toNat : Int)).toNat : Int) = _
  have e : ∀ s : UInt8, BitVec.ofInt 8 (s.toNat : Int) = s.toBitVec := fun s => by
    apply BitVec.eq_of_toNat_eq
    have := s.toNat_lt
    simp
  rw [e, e]
  have : (s.toBitVec ^^^ t.toBitVec).toNat = (s ^^^ t).toNat := by simp
  rw [this, IntKind.wrap_u8]
  have := (s ^^^ t).toNat_lt
  exact Int.emod_eq_of_lt (by omega) (by omega)

theorem bits_xor32 (s t : BitVec 32) : bits .xor .u32 (s.toNat : Int) (t.toNat : Int) = ((s ^^^ t).toNat : Int) := by
  show IntKind.u32.wrap ((BitVec.ofInt 32 (s.toNat : Int) ^^^ BitVec.ofInt 32 (t.toNat : Int)).toNat : Int) = _
  have e : ∀ s : BitVec 32, BitVec.ofInt 32 (s.toNat : Int) = s := fun s => by
    apply BitVec.eq_of_toNat_eq
    simp
  rw [e, e]
  have := (s ^^^ t).isLt
  show ((s ^^^ t).toNat : Int) % 4294967296 = _
  exact Int.emod_eq_of_lt (by omega) (by omega)

theorem xorl_snoc (a b : List UInt8) (k : Nat) (h1 : k < a.length) (h2 : k < b.length) : xorl (a.take (k + 1)) (b.take (k + 1)) = xorl (a.take k) (b.take k) ++ [a[k] ^^^ b[k]] := by
  unfold xorl
  rw [List.take_succ_eq_append_getElem h1, List.take_succ_eq_append_getElem h2, List.zipWith_append (by simp; omega)]
  rfl
theorem xorl_take (a b : List UInt8) (k : Nat) : (xorl a b).take k = xorl (a.take k) (b.take k) := by unfold xorl; rw [List.take_zipWith]

set_option maxHeartbeats 4000000 in
theorem law (va vb vc : Value) (a b c : List UInt8) (w : World) (hva : RB w va a) (hvb : RB w vb b) (hvc : RB w vc c) :
    Calls Try.prog 5 #[va, vb, vc] w fun e w' => e = .returned (.bool true) ∧ Below w.heap.size w w' := by
  obtain ⟨aa, ka, rfl, hka, hma⟩ := hva.form
  obtain ⟨ab, kb, rfl, hkb, hmb⟩ := hvb.form
  obtain ⟨ac, kc, rfl, hkc, hmc⟩ := hvc.form
  unfold maxLen at hma hmb hmc
  by_cases hg : 400 < a.length ∨ b.length < a.length ∨ c.length < a.length
  · by_cases h1 : 400 < a.length
    all_goals by_cases h2 : b.length < a.length
    all_goals by_cases h3 : c.length < a.length
    all_goals first
      | (exfalso; omega)
      | (go_enter Try.func5, Try.ntmps5
         go_wp2_with fail
         refine (known_calls _).mono ?_
         rintro e w1 ⟨rfl, hb1⟩
         go_wp2_with fail
         refine (known_calls _).mono ?_
         rintro e w2 ⟨rfl, hb2⟩
         go_wp2_with fail
         go_ret
         exact ⟨rfl, hb1.trans (hb2.mono hb1.size)⟩)
  · obtain ⟨i, hi, hz0, hz1, hz2⟩ := info_parts infoU8
    have h1 : ¬ 400 < a.length := by omega
    have h2 : ¬ b.length < a.length := by omega
    have h3 : ¬ c.length < a.length := by omega
    have hr1 := run_cut_to Try.underlying22 hi hz1 ab b.length kb a.length (by omega)
    have hr2 := run_cut_to Try.underlying22 hi hz1 ac c.length kc a.length (by omega)
    have hb' : RB w (cutV ab kb 0 a.length) (b.take a.length) := by
      have := RV.cut hvb (i := 0) (j := a.length) (by omega) (by simp; omega)
      have e : ((b.map u8v).drop 0).take (a.length - 0) = (b.take a.length).map u8v := by simp [List.map_take]
      rw [e] at this; exact this
    have hc' : RB w (cutV ac kc 0 a.length) (c.take a.length) := by
      have := RV.cut hvc (i := 0) (j := a.length) (by omega) (by simp; omega)
      have e : ((c.map u8v).drop 0).take (a.length - 0) = (c.take a.length).map u8v := by simp [List.map_take]
      rw [e] at this; exact this
    have hlb : (b.take a.length).length = a.length := by simp; omega
    have hlc : (c.take a.length).length = a.length := by simp; omega
    generalize b.take a.length = b' at hb' hlb
    generalize c.take a.length = c' at hc' hlc
    unfold cutV at hr1 hr2 hb' hc'
    generalize (if kb = 0 then ab else ab.map (·.add 0)) = ab' at hr1 hb'
    generalize (if kc = 0 then ac else ac.map (·.add 0)) = ac' at hr2 hc'
    simp only [Nat.sub_zero] at hr1 hr2 hb' hc'
    have HG := Lib.hid hg
    have HLB := Lib.hid hlb
    have HLC := Lib.hid hlc
    clear hg hlb hlc hvb hvc hmb hmc
    go_enter Try.func5, Try.ntmps5
    go_wp2_with fail
    refine (known_calls _).mono ?_
    rintro e w1 ⟨rfl, hb1⟩
    go_wp2_with fail
    go_quiet (fail)
    go_wp2_with fail
    have hA := hva.below hb1
    have hB := hb'.below hb1
    have hC := hc'.below hb1
    obtain ⟨w2, hw2⟩ : ∃ w2, w2 = w1.drewN nq := ⟨_, rfl⟩
    have hA2 : RB w2 (.slice aa a.length ka) a := by rw [hw2]; exact hA.below (below_draws _ _)
    have hB2 : RB w2 (.slice ab' a.length kb) b' := by rw [hw2]; exact hB.below (below_draws _ _)
    have hC2 : RB w2 (.slice ac' a.length kc) c' := by rw [hw2]; exact hC.below (below_draws _ _)
    have hb2 : Below w1.heap.size w1 w2 := by rw [hw2]; exact below_draws _ _
    rw [← hw2]
    clear hw2 hva hb' hc' hA hB hC hr1 hr2
    go_loopw [7, 8] (fun x7 x8 wr => ∃ k : Nat, k ≤ a.length ∧ x8 = .int .i64 k ∧ wr.ownsRow w2.heap.size 5 1 x7 k (((xorl (xorl a b') c').take k).map u8v) ∧ Below w2.heap.size w2 wr) (fun _ x8 _ => a.length - (intOf x8).toNat)
    case atStart => exact ⟨0, Nat.zero_le _, rfl, World.ownsRow_nil _ _ _ _, Below.refl _ _⟩
    case round =>
      obtain ⟨k, hk, rfl, hown, hbel⟩ := hrel
      have hsz := hbel.size
      have hA3 := hA2.below hbel
      have hB3 := hB2.below hbel
      have hC3 := hC2.below hbel
      by_cases hlt : k < a.length
      · obtain ⟨ba, oa, _, ea, _, _, ca⟩ := hA3.out (by omega)
        obtain ⟨bb, ob, _, eb, _, _, cb⟩ := hB3.out (by rw [HLB.out]; omega)
        obtain ⟨bc, oc, _, ec, _, _, cc⟩ := hC3.out (by rw [HLC.out]; omega)
        simp only [Value.slice.injEq] at ea eb ec
        obtain ⟨rfl, -, -⟩ := ea
        obtain ⟨rfl, -, -⟩ := eb
        obtain ⟨rfl, -, -⟩ := ec
        replace ca := ca k hlt
        replace cb := cb k (by rw [HLB.out]; exact hlt)
        replace cc := cc k (by rw [HLC.out]; exact hlt)
        have hnx : (xorl (xorl a b') c').take (k + 1) = (xorl (xorl a b') c').take k ++ [a[k] ^^^ b'[k]'(by rw [HLB.out]; exact hlt) ^^^ c'[k]'(by rw [HLC.out]; exact hlt)] := by
          have hl2 : k < (xorl (xorl a b') c').length := by simp [xorl, HLB.out, HLC.out]; exact hlt
          rw [List.take_succ_eq_append_getElem hl2]
          simp [xorl]
        obtain ⟨p, hp⟩ : ∃ p, p = a[k] := ⟨_, rfl⟩
        obtain ⟨q, hq⟩ : ∃ q, q = b'[k]'(by rw [HLB.out]; exact hlt) := ⟨_, rfl⟩
        obtain ⟨r, hr⟩ : ∃ r, r = c'[k]'(by rw [HLC.out]; exact hlt) := ⟨_, rfl⟩
        rw [← hp] at ca hnx
        rw [← hq] at cb hnx
        rw [← hr] at cc hnx
        have e1 := bits_xor8 p q
        have e2 := bits_xor8 (p ^^^ q) r
        generalize p ^^^ q = pq at e1 e2 hnx
        generalize pq ^^^ r = pqr at e2 hnx
        have HN := Lib.hid hnx
        clear hnx hp hq hr hA3 hB3 hC3
        go_wp2_with fail
        (refine wp_region_mix [0,1,2,3,4,5,6,7,8,9,10,11,12,13,14,15,16,17] [(true, true), (true, true), (true, true), (true, true), (true, false), (true, true), (true, true), (true, true), (true, false), (true, true), (true, true), (true, true), (true, true), (true, false), (true, true), (false, false), (false, false), (true, true)] [0, 0, 0, 6, 14, 0, 0, 96, 224, 510, 0, 0, 3072, 7168, 16382, 32766, 65535, 131071] _ (by kernel_rfl) (by kernel_rfl) (rfl : _ = _) ?_; simp only [pickL, List.map_cons, List.map_nil, List.getD_cons_succ, List.getD_cons_zero])
        repeat (first | (refine mix_pure (fun hne K hK => ?_); go_simp; refine hK _ ?_; clear hK K hne) | (refine mix_load ?_ (fun K hK => ?_); (focus (first | rfl | (go_simp; done))); go_simp; refine hK _ ?_; clear hK K) | (refine mix_skip ?_ (fun K hK => ?_); (focus (first | rfl | (go_simp; done))); go_simp; refine hK _ ?_; clear hK K))
        (refine mix_one (by first | rfl | (go_simp; done)) (fun R hR hX => ?_))
        go_wp2_with fail
        ((try simp only [wpList]); refine hR _ _ rfl ⟨fun w' => w' = _, rfl, (fun h => by cases h), ?_⟩; clear hR hX R)
        repeat (first | (refine mix_pure (fun hne K hK => ?_); go_simp; refine hK _ ?_; clear hK K hne) | (refine mix_load ?_ (fun K hK => ?_); (focus (first | rfl | (go_simp; done))); go_simp; refine hK _ ?_; clear hK K) | (refine mix_skip ?_ (fun K hK => ?_); (focus (first | rfl | (go_simp; done))); go_simp; refine hK _ ?_; clear hK K))
        (refine mix_one (by first | rfl | (go_simp; done)) (fun R hR hX => ?_))
        refine wpList_append_own _ rfl _ _ 22 rfl w2.heap.size 5 i (.int .u8 0) 1 1 Try.underlying22 hi hz0 hz1 hz2 rfl (by decide) u7 _ _ rfl (hown.alloc _).drew ⟨wr.heap.size, 0, none⟩ 1 1 [u8v pqr] rfl rfl ?c1 ?c2 ?c3 ?c4 ?c5 ?_
        case c1 => exact cell_one_new wr _ _
        case c2 => exact one_cell rfl
        case c3 => unfold maxLen; omega
        case c4 => omega
        case c5 => simp; omega
        intro v' w3 hown' hgrow _
        have hb3 := below_pushed (below_mix hbel hsz _) (hown.alloc _).drew hgrow (by simp; omega) (Nat.le_refl _)
        ((try simp only [wpList]); refine hR _ _ rfl ⟨fun w' => w' = _, rfl, (fun h => by cases h), ?_⟩; clear hR hX R)
        repeat (first | (refine mix_pure (fun hne K hK => ?_); go_simp; refine hK _ ?_; clear hK K hne) | (refine mix_load ?_ (fun K hK => ?_); (focus (first | rfl | (go_simp; done))); go_simp; refine hK _ ?_; clear hK K) | (refine mix_skip ?_ (fun K hK => ?_); (focus (first | rfl | (go_simp; done))); go_simp; refine hK _ ?_; clear hK K))
        refine mix_done ?_
        go_wp2_with fail
        go_roundw
        case rel => exact ⟨k + 1, by omega, by go_num, by rw [HN.out, List.map_append]; exact hown', hb3⟩
        case measure => simp [intOf]; omega
      · obtain rfl : k = a.length := by omega
        have hlx : (xorl (xorl a b') c').length = a.length := by simp [xorl, HLB.out, HLC.out]
        rw [List.take_of_length_le (by omega)] at hown
        have hX : RB wr u7 (xorl (xorl a b') c') := RV.own hown
        have h3 := crcOf_three a b' c' HLB.out HLC.out
        generalize xorl (xorl a b') c' = x at hX hown hlx h3
        have H3 := Lib.hid h3
        obtain ⟨a3, c3, rfl⟩ := own_slice hown
        have e1 := bits_xor32 (crcOf a) (crcOf b')
        have e2 := bits_xor32 (crcOf a ^^^ crcOf b') (crcOf c')
        rw [h3] at e2
        generalize crcOf a ^^^ crcOf b' = ab at e1 e2
        have hA3 := hA2.below hbel
        have hB3 := hB2.below hbel
        have hC3 := hC2.below hbel
        clear hown h3 hA2 hB2 hC2
        go_wp2_with fail
        refine (sum_one _ a _ _ hA3).mono ?_
        rintro e w5 ⟨rfl, hb5⟩
        go_wp2_with fail
        refine (sum_one _ b' _ _ (hB3.below hb5)).mono ?_
        rintro e w6 ⟨rfl, hb6⟩
        have hb65 := hb5.trans (hb6.mono hb5.size)
        go_wp2_with fail
        refine (sum_one _ c' _ _ (hC3.below hb65)).mono ?_
        rintro e w7 ⟨rfl, hb7⟩
        have hb75 := hb65.trans (hb7.mono hb65.size)
        go_wp2_with fail
        refine (sum_one _ x _ _ (hX.below hb75)).mono ?_
        rintro e w8 ⟨rfl, hb8⟩
        have hb85 := hb75.trans (hb8.mono hb75.size)
        go_wp2_with fail
        go_ret
        exact ⟨rfl, hb1.trans ((hb2.trans ((hbel.trans (hb85.mono hsz)).mono hb2.size)).mono hb1.size)⟩

theorem walk {H : Type} (enc : TypeId × Value → H) (W : World) (base : Nat) (v0 : Value) (d0 : DataW H) (p0 : List MemPlace)
    (hv0 : Value.okWide Try.prog W .any base 22 v0) (h0 : DataW.Trod enc Try.prog W 0 (fun _ => true) true 22 v0 d0 p0)
    (v1 : Value) (d1 : DataW H) (p1 : List MemPlace)
    (hv1 : Value.okWide Try.prog W .any base 22 v1) (h1 : DataW.Trod enc Try.prog W 0 (fun _ => true) true 22 v1 d1 p1)
    (v2 : Value) (d2 : DataW H) (p2 : List MemPlace)
    (hv2 : Value.okWide Try.prog W .any base 22 v2) (h2 : DataW.Trod enc Try.prog W 0 (fun _ => true) true 22 v2 d2 p2)
    (_hsz : (DataW.weightsEach Try.prog [22, 22, 22] [d0, d1, d2]).all (· ≤ reachBytes) = true) :
    Calls Try.prog 5 #[v0, v1, v2] W fun e W' => e = .returned (.bool true) ∧ Below W.heap.size W W' := by
  obtain ⟨l0, hl0⟩ := open_bytes h0 (okWide_slice Try.underlying22 hv0)
  obtain ⟨l1, hl1⟩ := open_bytes h1 (okWide_slice Try.underlying22 hv1)
  obtain ⟨l2, hl2⟩ := open_bytes h2 (okWide_slice Try.underlying22 hv2)
  exact law v0 v1 v2 l0 l1 l2 W hl0 hl1 hl2
end Go.Proofs.Ytoalihddfgehjaa.lawSumGoes
