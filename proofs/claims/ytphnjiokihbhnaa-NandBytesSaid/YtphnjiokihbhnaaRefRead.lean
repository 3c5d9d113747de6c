/- gabionref04: a page is read. -/
--only r2
import Derived.Test.YtphnjiokihbhnaaRefBegin
import Derived.Test.YtphnjiokihbhnaaNandRead
namespace Go.Proofs.Ytphnjiokihbhnaa
set_option linter.unusedVariables false
set_option linter.unusedSimpArgs false
open Go.RowKit

/-- what the reference's Read is to end in -/
def RReadEnds (w : World) (L : NdLay) (R : Nd × List UInt8 × Nat) (e : Ending) (w' : World) : Prop :=
  ∃ v, e = .returned (.tuple #[v, .int .i64 R.2.2]) ∧ RB w' v R.2.1 ∧ NdAt false w' L R.1 ∧ Only L.S w w'

set_option maxRecDepth 100000 in
set_option maxHeartbeats 4000000 in
theorem rread_calls {w : World} {L : NdLay} {M : Nd} (h : NdAt false w L M) (c b p : Int) (hc : I64 c) (hb : I64 b) (hp : I64 p) (hops : M.ops < 1000000) :
    Calls Try.prog 36 #[ptrV L.p, .int .i64 c, .int .i64 b, .int .i64 p] w (RReadEnds w L (M.read c b p)) := by
  have hB := rbegin_calls h c b hc hb hops
  obtain ⟨s1, s2, s3, s4, s5, s6, s7, s8, s9⟩ := begin_shape M c b
  have hz := begin_zero M c b
  have hrd : M.read c b p = (if (M.begin c b).2.2 ≠ 0 then ((M.begin c b).1, [], (M.begin c b).2.2) else if (M.begin c b).2.1.kind = 2 then ({ (M.begin c b).1 with off := true }, [], 72) else if ¬ (M.begin c b).1.pageIn p then ((M.begin c b).1, [], 34) else ((M.begin c b).1, if ((M.begin c b).1.page c.toNat b.toNat p.toNat).length = 0 then full ((M.begin c b).1.siz + 64) else (M.begin c b).1.page c.toNat b.toNat p.toNat, 0)) := rfl
  generalize hRR : M.read c b p = RR at hrd ⊢
  clear hRR
  have HRD := Lib.hid hrd
  clear hrd
  generalize hPost : RReadEnds w L RR = Post
  have HPOST := Lib.hid hPost
  clear hPost
  unfold RBeginEnds at hB
  generalize M.begin c b = R at hB s1 s2 s3 s4 s5 s6 s7 s8 s9 hz HRD
  obtain ⟨M1, x, n⟩ := R
  simp only at hB s1 s2 s3 s4 s5 s6 s7 s8 s9 hz HRD
  obtain ⟨xo, xk, xc, xl⟩ := x
  simp only [evV] at hB
  simp only at HRD
  have S1 := Lib.hid (⟨s1, s2, s3, s4, s5, s6, s7, s8, s9⟩ : _ ∧ _ ∧ _ ∧ _ ∧ _ ∧ _ ∧ _ ∧ _ ∧ _)
  have HZ := Lib.hid hz
  clear s1 s2 s3 s4 s5 s6 s7 s8 s9 hz h
  have HB := Lib.hid hB
  clear hB
  have hfin : ∀ w' (M' : Nd) (l : List UInt8) (k : Nat) (v : Value), RR = (M', l, k) → NdAt false w' L M' ∧ Only L.S w w' ∧ RB w' v l → Post (.returned (.tuple #[v, .int .i64 k])) w' := fun w' M' l k v e ⟨h1, h2, h3⟩ => by
    rw [← HPOST.out, e]
    exact ⟨v, rfl, h3, h1, h2⟩
  have HF := Lib.hid hfin
  clear hfin
  go_enter Try.func36, Try.ntmps36
  go_wp2_with fail
  refine HB.out.mono ?_
  rintro e w1 ⟨v, rfl, hv, hN, hO⟩
  obtain ⟨va, vc, rfl, -, -⟩ := hv.form
  clear HB
  have hT := hN.top
  have hsz := hN.ok.siz
  have hpg := hN.ok.pgs
  simp only [topCells, Bool.false_eq_true, if_false] at hT
  have hlp := heap_lt hT
  have hok := hN.ok.page
  obtain ⟨q, hq⟩ : ∃ q, q = w1.heap.size := ⟨_, rfl⟩
  have hb2 := (Below.refl w1.heap.size w1).alloc (Nat.le_refl _) (.cells #[.int .i64 xo, .int .i64 xk, .int .i64 xc, .slice va xl.length vc] 103)
  have hQ : (w1.alloc (.cells #[.int .i64 xo, .int .i64 xk, .int .i64 xc, .slice va xl.length vc] 103)).heap[q]? = some (.cells #[.int .i64 xo, .int .i64 xk, .int .i64 xc, .slice va xl.length vc] 103 (0, 0)) := heap_is hq
  have hN2 := hN.below hb2
  have hO2 := hO.trans (Only.new hb2 fun _ => False) fun _ _ => False.elim
  have hlq := heap_lt hQ
  have q1 := cells_at hQ 1 _ rfl
  simp only [List.getElem_toArray, List.getElem_cons_succ, List.getElem_cons_zero] at q1
  clear hq
  by_cases hn0 : n = 0
  · obtain ⟨⟨i1, i2, i3, i4⟩, -, -⟩ := HZ.out hn0
    obtain ⟨c, rfl⟩ : ∃ k : Nat, c = k := ⟨c.toNat, by omega⟩
    obtain ⟨b, rfl⟩ : ∃ k : Nat, b = k := ⟨b.toNat, by omega⟩
    subst hn0
    have hrd := HRD.out
    rw [if_neg (by simp)] at hrd
    clear HRD
    by_cases hk : xk = 2
    · rw [if_pos hk] at hrd
      have hN3 := (hN.setOff true).below ((Below.refl _ _).alloc (Nat.le_refl _) (.cells #[.int .i64 xo, .int .i64 xk, .int .i64 xc, .slice va xl.length vc] 103))
      have hO3 := (hO.set ⟨L.p, 8, none⟩ (.bool true) (fun _ => hN.Sp)).alloc (.cells #[.int .i64 xo, .int .i64 xk, .int .i64 xc, .slice va xl.length vc] 103)
      have HX := Lib.hid (HF.out _ _ _ _ (.slice none 0 0) hrd ⟨hN3, hO3, RB.nil _⟩)
      have t8 := cells_at hT 8 _ rfl
      have t8f := froz_at hT 8
      have hk' : (xk == 2) = true := by simp [hk]
      clear hk hrd hT hQ hN2 hO2 hN3 hO3 hO hN hb2 hv
      go_wp2_with fail
      exact HX.out
    · rw [if_neg hk] at hrd
      have hk' : (xk == 2) = false := by simp [hk]
      have t2 := cells_at (heap_keep hb2 hT) 2 _ rfl
      have t3 := cells_at (heap_keep hb2 hT) 3 _ rfl
      have t4 := cells_at (heap_keep hb2 hT) 4 _ rfl
      simp only [List.getElem_toArray, List.getElem_cons_succ, List.getElem_cons_zero] at t2 t3 t4
      by_cases hpi : M1.pageIn p
      · rw [if_neg (fun hh => hh hpi)] at hrd
        obtain ⟨j1, j2⟩ := hpi
        obtain ⟨p, rfl⟩ : ∃ k : Nat, p = k := ⟨p.toNat, by omega⟩
        simp only [Int.toNat_natCast] at hrd
        have s := S1.out
        have hcm : c ≤ M1.mem := by rw [s.1]; omega
        have hbm : b < M1.blk := by rw [s.2.1]; omega
        have hpm : p < M1.pgs := by omega
        have hcs := hN2.chips.cell (o := c) (show c < M1.mem + 1 by omega)
        have hk0 := (hN2.blk c hcm).cell (o := b * 4) (by omega)
        rw [blkCells0] at hk0
        have hp0 := (hN2.pgs c b hcm hbm).cell (o := p) (by show p < M1.pgs * 1; omega)
        have hpv : RB _ (L.pv c b p) (M1.page c b p) := hN2.pg c b p hcm hbm hpm
        have hlcs := cell_lt hcs
        have hlb : L.cb c < w1.heap.size := (hN.blk c hcm).lt
        have hlg : L.pb c b < w1.heap.size := (hN.pgs c b hcm hbm).lt
        have d1 : decide ((p : Int) < 0) = false := by simp
        have d2 : decide ((M1.pgs : Int) ≤ p) = false := by simp; omega
        have d2' : ¬ M1.pgs ≤ p := by omega
        have d3 : (c : Int) < (M1.mem : Int) + 1 := by omega
        have d4 : (b : Int) < M1.blk := by omega
        have d5 : (p : Int) < M1.pgs := by omega
        obtain ⟨pa, pk, hpe, -, -⟩ := hpv.form
        rw [hpe] at hp0 hpv
        by_cases h0 : (M1.page c b p).length = 0
        · rw [if_pos h0] at hrd
          obtain ⟨n, hn⟩ : ∃ n, n = M1.siz + 64 := ⟨_, rfl⟩
          rw [← hn] at hrd
          have hzc : ∀ w, Calls Try.prog 12 #[.int .i64 ((M1.siz : Int) + 64)] w fun e w' => e = .returned (.slice (some ⟨w.heap.size, 0, none⟩) n n) ∧ w' = w.alloc (.cells (List.replicate n (Value.int .u8 0)).toArray 5) := fun w => by
            have := zeros_calls n w (by omega)
            rw [hn, Int.natCast_add, show ((64 : Nat) : Int) = 64 from rfl, ← hn] at this
            exact this
          have HN := Lib.hid hn
          have hn2 : n ≤ 2000 := by omega
          have hfin : ∀ w' v, NdAt false w' L M1 ∧ Only L.S w w' ∧ RB w' v (full n) → Post (.returned (.tuple #[v, .int .i64 0])) w' := fun w' v h => HF.out _ _ _ _ _ hrd h
          have HFX := Lib.hid hfin
          rw [h0] at hp0
          have HX := Lib.hid (⟨hN2, hO2⟩ : _ ∧ _)
          have HZC := Lib.hid hzc
          clear hfin hrd hn h0 hT hQ hN hO hv hN2 hO2 hpv hpe s hok hk hb2 hzc
          go_wp2_with fail
          refine (HZC.out _).mono ?_
          obtain ⟨hN2, hO2⟩ := HX.out
          clear HX HZC
          generalize w1.alloc (.cells #[.int .i64 xo, .int .i64 xk, .int .i64 xc, .slice va xl.length vc] 103) = w3 at hN2 hO2 ⊢
          rintro e w4 ⟨rfl, hw4⟩
          have hb4 : Below w3.heap.size w3 w4 := by rw [hw4]; exact (Below.refl _ _).alloc (Nat.le_refl _) _
          have hr4 : w4.heap[w3.heap.size]? = some (.cells ((fillTo (fun _ => 255) n 0).map u8v).toArray 5 (0, 0)) := by
            rw [hw4, fillTo_zero, rep_u8]; exact heap_new _ _
          clear hw4
          go_wp2_with fail
          go_loopw [13] (fun i wr => ∃ k : Nat, k ≤ n ∧ i = .int .i64 k ∧ wr.heap[w3.heap.size]? = some (.cells ((fillTo (fun _ => 255) n k).map u8v).toArray 5 (0, 0)) ∧ Below w3.heap.size w3 wr) (fun i _ => n - (intOf i).toNat)
          case atStart => exact ⟨0, Nat.zero_le _, rfl, hr4, hb4⟩
          case round =>
            clear hr4 hb4
            obtain ⟨k, hk, rfl, hb1, hbel⟩ := hrel
            by_cases hlt : k < n
            · obtain ⟨c0, hc0⟩ := fillTo_cell hb1 hlt
              have hf := froz_at hb1 k
              have hkn : (k : Int) < n := by omega
              have HB := Lib.hid hb1
              clear hb1
              go_wp2_with fail
              go_roundw
              case rel =>
                refine ⟨k + 1, by omega, by go_num, ?_, hbel.setCell (by simp) _⟩
                rw [← fillTo_set _ _ _ hlt]
                exact set_at HB.out _
              case measure => simp [intOf]; omega
            · obtain rfl : k = n := by omega
              have hrb := hb1
              rw [fillTo_all, full_fill] at hrb
              have hX := HFX.out wr (.slice (some ⟨w3.heap.size, 0, none⟩) k k) ⟨hN2.below hbel, hO2.trans (Only.new hbel fun _ => False) (fun _ _ => False.elim), RB.block hrb (by simp [full]) (Nat.le_refl _) (by unfold maxLen; omega)⟩
              have HX := Lib.hid hX
              clear hb1 hrb hX
              go_wp2_with fail
              exact HX.out
        · rw [if_neg h0] at hrd
          have HX := Lib.hid (HF.out _ _ _ _ _ hrd ⟨hN2, hO2, hpv⟩)
          have h0' : 0 < (M1.page c b p).length := by omega
          generalize M1.page c b p = pg at *
          clear hk hT hQ hN hO hv hb2 hrd hN2 hO2 hpv hpe s hok h0
          go_wp2_with fail
          exact HX.out
      · rw [if_pos hpi] at hrd
        have HX := Lib.hid (HF.out _ _ _ _ (.slice none 0 0) hrd ⟨hN2, hO2, RB.nil _⟩)
        unfold Nd.pageIn at hpi
        clear hk hrd hT hQ hN2 hO2 hO hN hb2 hv
        by_cases hp0 : p < 0
        · clear hpi
          go_wp2_with fail
          exact HX.out
        · have hp1 : (M1.pgs : Int) ≤ p := by omega
          clear hpi
          go_wp2_with fail
          exact HX.out
  · have hrd := HRD.out
    rw [if_pos hn0] at hrd
    have HX := Lib.hid (HF.out _ _ _ _ (.slice none 0 0) hrd ⟨hN2, hO2, RB.nil _⟩)
    clear hrd
    go_wp2_with fail
    exact HX.out
end Go.Proofs.Ytphnjiokihbhnaa
