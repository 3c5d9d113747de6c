/- SumTurns: the walk. -/
import Derived.Test.YtoalihddfgehjaaKnown
import Derived.Test.YtoalihddfgehjaaR1
import Derived.Test.YtoalihddfgehjaaMix
import Derived.Test.YtoalihddfgehjaaTurn
import Derived.Laws.OwnMore
namespace Go.Proofs.Ytoalihddfgehjaa.lawSumTurns
set_option linter.unusedVariables false
set_option linter.unusedSimpArgs false
open Go.RowKit Go.ChangeShapes Go.WideShapes

theorem i64_fix {z : Int} (h0 : -9223372036854775808 ≤ z) (h1 : z ≤ 9223372036854775807) : IntKind.i64.wrap z = z := by
  rw [IntKind.wrap_i64]; omega
theorem shl_is (m : Nat) (h : m < 8) : (2 : Int) ^ min m 8 % 256 = ((UInt8.ofNat (2 ^ m)).toNat : Int) := by
  match m, h with
  | 0, _ => rfl
  | 1, _ => rfl
  | 2, _ => rfl
  | 3, _ => rfl
  | 4, _ => rfl
  | 5, _ => rfl
  | 6, _ => rfl
  | 7, _ => rfl
theorem bits_xor8 (s t : UInt8) : bits .xor .u8 (s.toNat : Int) (t.toNat : Int) = ((s ^^^ t).toNat : Int) := by
  show IntKind.u8.wrap ((BitVec.ofInt 8 (s.toNat : Int) ^^^ BitVec.ofInt 8 (t.toNat : Int)).toNat : Int) = _
  have e : ∀ s : UInt8, BitVec.ofInt 8 (s.toNat : Int) = s.toBitVec := fun s => by
    apply BitVec.eq_of_toNat_eq
    have := s.toNat_lt
    simp
  rw [e, e]
  have : (s.toBitVec ^^^ t.toBitVec).toNat = (s ^^^ t).toNat := by simp
  rw [this, IntKind.wrap_u8]
  have := (s ^^^ t).toNat_lt
  exact Int.emod_eq_of_lt (by omega) (by omega)
theorem ofInt_nat (n : Nat) : BitVec.ofInt 32 (n : Int) = BitVec.ofNat 32 n := by
  apply BitVec.eq_of_toNat_eq; simp
theorem bit_and (x : BitVec 32) (i : Nat) : bits .and .u32 ((x.toNat : Int) / 2 ^ i) 1 = if x.getLsbD i then 1 else 0 := by
  show IntKind.u32.wrap ((BitVec.ofInt 32 ((x.toNat : Int) / 2 ^ i) &&& BitVec.ofInt 32 1).toNat : Int) = _
  have e1 : BitVec.ofInt 32 ((x.toNat : Int) / 2 ^ i) = x >>> i := by
    have : ((x.toNat : Int) / 2 ^ i) = ((x.toNat / 2 ^ i : Nat) : Int) := by simp
    rw [this, ofInt_nat]
    apply BitVec.eq_of_toNat_eq
    have h1 := x.isLt
    have h2 : x.toNat / 2 ^ i ≤ x.toNat := Nat.div_le_self _ _
    simp [Nat.shiftRight_eq_div_pow]
    omega
  have e2 : (x >>> i) &&& BitVec.ofInt 32 1 = if x.getLsbD i then 1#32 else 0#32 := by
    apply BitVec.eq_of_getLsbD_eq
    intro j hj
    rw [BitVec.getLsbD_and, show (BitVec.ofInt 32 1) = 1#32 by rfl]
    by_cases h0 : j = 0
    · subst h0; cases h : x.getLsbD i <;> simp [h]
    · have : (1#32).getLsbD j = false := by simp [h0]
      rw [this]; cases h : x.getLsbD i <;> simp [h0]
  rw [e1, e2]
  cases x.getLsbD i <;> rfl

set_option maxHeartbeats 4000000 in
theorem law (v : Value) (l : List UInt8) (at' : Int) (x : BitVec 32) (w : World) (hv : RB w v l) :
    Calls Try.prog 6 #[v, .int .i64 at', .int .u32 (x.toNat : Int)] w fun e w' => e = .returned (.bool true) ∧ Below w.heap.size w w' := by
  obtain ⟨a, cap, rfl, hcap, hmax⟩ := hv.form
  unfold maxLen at hmax
  have hxl := x.isLt
  by_cases hg : l.length < 5 ∨ 400 < l.length ∨ x.toNat = 0
  · by_cases h1 : l.length < 5
    all_goals by_cases h2 : 400 < l.length
    all_goals by_cases h3 : x.toNat = 0
    all_goals first
      | (exfalso; omega)
      | (go_enter Try.func6, Try.ntmps6
         go_wp2_with fail
         refine (known_calls _).mono ?_
         rintro e w1 ⟨rfl, hb1⟩
         go_wp2_with fail
         refine (known_calls _).mono ?_
         rintro e w2 ⟨rfl, hb2⟩
         go_wp2_with fail
         go_ret
         exact ⟨rfl, hb1.trans (hb2.mono hb1.size)⟩)
  · have h1 : ¬ l.length < 5 := by omega
    have h2 : ¬ 400 < l.length := by omega
    have h3 : ¬ x.toNat = 0 := by omega
    have HG := Lib.hid hg
    have hx0 : ((x.toNat : Int) == 0) = false := by rw [beq_eq_false_iff_ne]; omega
    clear hg h3 hxl
    obtain ⟨k, hk, hke⟩ := pick_eq at' (8 * l.length - 32) (by omega) (by omega)
    rw [show ((8 * l.length - 32 : Nat) : Int) = 8 * (l.length : Int) - 32 by omega] at hke
    have HK := Lib.hid hk
    clear hk
    go_enter Try.func6, Try.ntmps6
    go_wp2_with fail
    refine (known_calls _).mono ?_
    rintro e w1 ⟨rfl, hb1⟩
    have hA := hv.below hb1
    go_wp2_with fail
    rw [hke]
    clear hke
    refine (part_calls _ l 0 l.length w1 hA (by omega) (by omega)).mono ?_
    rintro e w2 ⟨y, rfl, hown, hb2⟩
    rw [List.drop_zero, List.take_length] at hown
    have hA2 := hA.below hb2
    rcases hown.2 with ⟨_, h0⟩ | ⟨g, gc, _, rfl, hg1, _⟩
    · exfalso; omega
    have hg2 := (hown.lt g rfl).2
    go_wp2_with fail
    go_loopw [8] (fun x8 wr => ∃ i : Nat, i ≤ 32 ∧ x8 = .int .i64 i ∧ wr.ownsRow w1.heap.size 5 1 (.slice (some ⟨g, 0, none⟩) l.length gc) l.length ((turnN l k x i).map u8v) ∧ Below w1.heap.size w1 wr) (fun x8 _ => 32 - (intOf x8).toNat)
    case atStart => exact ⟨0, Nat.zero_le _, rfl, hown, hb2⟩
    case round =>
      obtain ⟨i, hi, rfl, hown', hbel⟩ := hrel
      clear hown
      by_cases hlt : i < 32
      · have hab := bit_and x i
        by_cases hbit : x.getLsbD i = true
        · rw [if_pos hbit] at hab
          have hkl := HK.out
          go_wp2_with fail
          (refine wp_region_mix [0, 1, 2, 3, 4, 5, 6, 7, 8, 9, 10, 11, 12, 13] [(true, true), (true, true), (true, true), (true, true), (true, true), (true, true), (true, true), (true, false), (true, true), (true, true), (true, true), (true, true), (true, true), (false, false)] [0, 0, 2, 0, 0, 16, 56, 120, 0, 256, 768, 2040, 4095, 8191] _ (by kernel_rfl) (by kernel_rfl) (rfl : _ = _) ?_; simp only [pickL, List.map_cons, List.map_nil, List.getD_cons_succ, List.getD_cons_zero])
          rw [show ((k : Int) + (i : Int)) = ((k + i : Nat) : Int) by omega]
          obtain ⟨n, hn⟩ : ∃ n, n = k + i := ⟨_, rfl⟩
          rw [← hn]
          obtain ⟨q, hqn⟩ : ∃ q, q = n / 8 := ⟨_, rfl⟩
          obtain ⟨m, hmn⟩ : ∃ m, m = n % 8 := ⟨_, rfl⟩
          have hql : q < l.length := by omega
          have hn9 : n < 4000 := by omega
          have hq : IntKind.i64.wrap ((n : Int) / 8) = (q : Int) := by
            rw [show (n : Int) / 8 = (q : Int) by omega]; exact i64_fix (by omega) (by omega)
          have hm : (n : Int).tmod 8 = (m : Int) := by rw [Int.tmod_eq_emod_of_nonneg (by omega)]; omega
          have hm8 : m < 8 := by omega
          have hsh := shl_is m hm8
          have hlen : (turnN l k x i).length = l.length := turnN_length l k x i
          have hce := hown'.cellAt (j := q) (by simpa using hql)
          have hfr := hown'.frozenAt q
          have hnext : turnN l k x (i + 1) = (turnN l k x i).set q ((turnN l k x i)[q] ^^^ UInt8.ofNat (2 ^ m)) := by
            rw [turnN, if_pos hbit, flipAt, ← hn, ← hqn, ← hmn]
            simp [List.getD, hlen, hql]
          replace hce : wr.cell? ⟨g, q, none⟩ = some (u8v (turnN l k x i)[q]) := by rw [hce]; simp [hlen, hql]
          have hbx := bits_xor8 (turnN l k x i)[q] (UInt8.ofNat (2 ^ m))
          generalize (turnN l k x i)[q] = c at hce hnext hbx
          generalize UInt8.ofNat (2 ^ m) = d at hsh hnext hbx
          generalize c ^^^ d = cd at hbx hnext
          have HX := Lib.hid hnext
          clear hkl hn hqn hmn hn9 hlen hnext hm8
          have hst := hown'.stored q (u8v cd)
          repeat (first | (refine mix_pure (fun hne K hK => ?_); go_simp; refine hK _ ?_; clear hK K hne) | (refine mix_load ?_ (fun K hK => ?_); (focus (first | rfl | (go_simp; done))); go_simp; refine hK _ ?_; clear hK K) | (refine mix_skip ?_ (fun K hK => ?_); (focus (first | rfl | (go_simp; done))); go_simp; refine hK _ ?_; clear hK K))
          (refine mix_one (by first | rfl | (go_simp; done)) (fun R hR hX => ?_))
          go_wp2_with fail
          ((try simp only [wpList]); refine hR _ _ rfl ⟨fun w' => w' = _, rfl, (fun h => by cases h), ?_⟩; clear hR hX R)
          refine mix_done ?_
          go_wp2_with fail
          go_roundw
          case rel => exact ⟨i + 1, by omega, by go_num, by rw [HX.out, List.map_set]; exact hst.1.drew, (hbel.grown hst.2 hbel.size fun z hz => (by cases hz; exact hg1)).trans ⟨rfl, rfl, rfl, Nat.le_refl _, fun _ _ => rfl⟩⟩
          case measure => simp [intOf]; omega
        · rw [if_neg hbit] at hab
          have hnext : turnN l k x (i + 1) = turnN l k x i := by rw [turnN, if_neg hbit]
          have HX := Lib.hid hnext
          clear hnext
          go_wp2_with fail
          go_roundw
          case rel => exact ⟨i + 1, by omega, by go_num, by rw [HX.out]; exact hown', hbel⟩
          case measure => simp [intOf]; omega
      · obtain rfl : i = 32 := by omega
        have hR : RB wr (.slice (some ⟨g, 0, none⟩) l.length gc) (turnN l k x 32) := RV.own hown'
        have hA3 := hA.below hbel
        have hne := turned_sum l k x (by intro h; subst h; simp at hx0) (by have := HK.out; omega)
        go_wp2_with fail
        refine (sum_one _ _ _ _ hR).mono ?_
        rintro e w5 ⟨rfl, hb5⟩
        have hA5 := hA3.below hb5
        generalize crcOf (turnN l k x 32) = y at hne ⊢
        generalize hz : crcOf l = z at hne
        have hyz : ((y.toNat : Int) != (z.toNat : Int)) = true := by
          rw [bne_iff_ne]
          intro h
          exact hne (BitVec.eq_of_toNat_eq (by omega))
        have HZ := Lib.hid hz
        clear hne hz
        go_wp2_with fail
        refine (sum_one _ _ _ _ hA5).mono ?_
        rintro e w6 ⟨rfl, hb6⟩
        rw [HZ.out]
        go_wp2_with fail
        go_ret
        exact ⟨rfl, hb1.trans ((hbel.trans ((hb5.trans (hb6.mono hb5.size)).mono hbel.size)).mono hb1.size)⟩


theorem walk {H : Type} (enc : TypeId × Value → H) (W : World) (base : Nat) (v0 : Value) (d0 : DataW H) (p0 : List MemPlace)
    (hv0 : Value.okWide Try.prog W .any base 22 v0) (h0 : DataW.Trod enc Try.prog W 0 (fun _ => true) true 22 v0 d0 p0)
    (v1 : Value) (d1 : DataW H) (p1 : List MemPlace)
    (hv1 : Value.okWide Try.prog W .any base 3 v1) (h1 : DataW.Trod enc Try.prog W 0 (fun _ => true) true 3 v1 d1 p1)
    (v2 : Value) (d2 : DataW H) (p2 : List MemPlace)
    (hv2 : Value.okWide Try.prog W .any base 24 v2) (h2 : DataW.Trod enc Try.prog W 0 (fun _ => true) true 24 v2 d2 p2)
    (_hsz : (DataW.weightsEach Try.prog [22, 3, 24] [d0, d1, d2]).all (· ≤ reachBytes) = true) :
    Calls Try.prog 6 #[v0, v1, v2] W fun e W' => e = .returned (.bool true) ∧ Below W.heap.size W W' := by
  obtain ⟨l, hl⟩ := open_bytes h0 (okWide_slice Try.underlying22 hv0)
  obtain ⟨c, rfl, _, _, wc⟩ := open_int Try.underlying3 hv1 h1
  obtain ⟨z, rfl, _, _, wz⟩ := open_int Try.underlying24 hv2 h2
  have hz := lit_u32 wz
  have e : z = ((BitVec.ofNat 32 z.toNat).toNat : Int) := by simp; omega
  rw [e]
  exact law v0 l c _ W hl
end Go.Proofs.Ytoalihddfgehjaa.lawSumTurns
