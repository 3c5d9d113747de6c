/- gabionref04: a page is programmed. -/
--only r2
import Derived.Test.YtphnjiokihbhnaaRefLeft
import Derived.Test.YtphnjiokihbhnaaNandProg
namespace Go.Proofs.Ytphnjiokihbhnaa
set_option linter.unusedVariables false
set_option linter.unusedSimpArgs false
open Go.RowKit

/-- the cell of a page is written -/
theorem NdAt.putPg1 {w : World} {L : NdLay} {M : Nd} (h : NdAt false w L M) {c b p : Nat} (hc : c ≤ M.mem) (hb : b < M.blk) (hp : p < M.pgs) {l : List UInt8} {v : Value} (hl : l = [] ∨ l.length = M.siz + 64) (h1 : RB w v l) :
    ∃ L', SameLay L L' ∧ NdAt false (w.setCell ⟨L.pb c b, p, none⟩ v) L' { M with page := upd3 M.page c b p l } := by
  obtain ⟨a1, k1, rfl, -, -⟩ := h1.form
  have hO : Only (fun x => x = L.pb c b) w (w.setCell ⟨L.pb c b, p, none⟩ (.slice a1 l.length k1)) := Only.of_set w ⟨L.pb c b, p, none⟩ _
  have hn : ∀ x, x < w.heap.size → x = L.pb c b → NoByte w x := fun x _ e => by rw [e]; exact h.noByte (h.Sg hc hb)
  have hrow := (h.pgs c b hc hb).set (o := p) (.slice a1 l.length k1) (by show p < M.pgs * 1; omega) (nb_slice _ _ _)
  have key := h.setPg (u := fun _ => .slice a1 l.length k1) hc hb hp l hl hO (hrow.congr fun o ho => ?_) (h1.only hO hn)
  · refine ⟨_, ⟨?_, ?_, ?_, ?_, ?_⟩, key⟩ <;> rfl
  · show _ = if p * 1 ≤ o ∧ o < p * 1 + 1 then _ else _
    by_cases e : o = p
    · subst e; rw [if_pos rfl, if_pos (by omega)]
    · rw [if_neg e, if_neg (by omega)]

/-- what the reference's Program is to end in -/
def RProgEnds (w : World) (L : NdLay) (R : Nd × Nat) (e : Ending) (w' : World) : Prop :=
  ∃ L', SameLay L L' ∧ e = .returned (.int .i64 R.2) ∧ NdAt false w' L' R.1 ∧ Only L.S w w'

set_option maxRecDepth 100000 in
set_option maxHeartbeats 6000000 in
theorem rprog_calls {w : World} {L : NdLay} {M : Nd} (h : NdAt false w L M) (c b p : Int) (vd vo : Value) (d o : List UInt8) (hc : I64 c) (hb : I64 b) (hp : I64 p) (hd : RB w vd d) (ho : RB w vo o) (hdl : d.length ≤ 100000) (hol : o.length ≤ 100000) (hops : M.ops < 1000000) :
    Calls Try.prog 38 #[ptrV L.p, .int .i64 c, .int .i64 b, .int .i64 p, vd, vo] w (RProgEnds w L (M.program c b p d o)) := by
  have hB := rbegin_calls h c b hc hb hops
  have hnb : ∀ x, L.S x → NoByte w x := fun x => h.noByte
  have hxl := begin_left h.ok c b
  obtain ⟨s1, s2, s3, s4, s5, s6, s7, s8, s9⟩ := begin_shape M c b
  have hz := begin_zero M c b
  have hrd : M.program c b p d o = (if (M.begin c b).2.2 ≠ 0 then ((M.begin c b).1, (M.begin c b).2.2) else if ¬ ((M.begin c b).1.pageIn p ∧ d.length = (M.begin c b).1.siz ∧ o.length = 64) then (if (M.begin c b).2.1.kind = 2 then ({ (M.begin c b).1 with off := true }, 72) else ((M.begin c b).1, 34)) else if (M.begin c b).2.1.kind = 2 then
      (if p = (M.begin c b).1.next c.toNat b.toNat ∧ (M.begin c b).1.bad c.toNat b.toNat = false then ({ (M.begin c b).1 with off := true }.lay c.toNat b.toNat p.toNat (leftOf (M.begin c b).1.siz (M.begin c b).2.1.left), 72) else ({ (M.begin c b).1 with off := true }, 72))
    else if (M.begin c b).1.bad c.toNat b.toNat then ((M.begin c b).1, 70) else if p ≠ (M.begin c b).1.next c.toNat b.toNat then ((M.begin c b).1, 73) else if (M.begin c b).2.1.kind = 1 then (((M.begin c b).1.lay c.toNat b.toNat p.toNat (leftOf (M.begin c b).1.siz (M.begin c b).2.1.left)).spoil c.toNat b.toNat, 70) else ((M.begin c b).1.lay c.toNat b.toNat p.toNat (d ++ o), 0)) := rfl
  have HRD := Lib.hid hrd
  clear hrd
  generalize hRR : M.program c b p d o = RR at HRD ⊢
  clear hRR
  generalize hPost : RProgEnds w L RR = Post
  have HPOST := Lib.hid hPost
  clear hPost
  unfold RBeginEnds at hB
  generalize M.begin c b = R at hB s1 s2 s3 s4 s5 s6 s7 s8 s9 hz HRD hxl
  obtain ⟨M1, x, n⟩ := R
  simp only at hB s1 s2 s3 s4 s5 s6 s7 s8 s9 hz HRD hxl
  obtain ⟨xo, xk, xc, xl⟩ := x
  simp only [evV] at hB
  simp only at HRD hxl
  have HXL := Lib.hid hxl
  clear hxl
  have S1 := Lib.hid (⟨s1, s2, s3, s4, s5, s6, s7, s8, s9⟩ : _ ∧ _ ∧ _ ∧ _ ∧ _ ∧ _ ∧ _ ∧ _ ∧ _)
  have HZ := Lib.hid hz
  clear s1 s2 s3 s4 s5 s6 s7 s8 s9 hz h
  have HB := Lib.hid hB
  clear hB
  obtain ⟨ad, cd, rfl, -, -⟩ := hd.form
  obtain ⟨ao, co, rfl, -, -⟩ := ho.form
  go_enter Try.func38, Try.ntmps38
  go_wp2_with fail
  refine HB.out.mono ?_
  rintro e w1 ⟨v, rfl, hv, hN, hO⟩
  obtain ⟨va, vc, rfl, -, -⟩ := hv.form
  clear HB
  have hT := hN.top
  have hsz := hN.ok.siz
  have hpg := hN.ok.pgs
  simp only [topCells, Bool.false_eq_true, if_false] at hT
  have hlp := heap_lt hT
  obtain ⟨q, hq⟩ : ∃ q, q = w1.heap.size := ⟨_, rfl⟩
  have hb2 := (Below.refl w1.heap.size w1).alloc (Nat.le_refl _) (.cells #[.int .i64 xo, .int .i64 xk, .int .i64 xc, .slice va xl.length vc] 103)
  have hQ : (w1.alloc (.cells #[.int .i64 xo, .int .i64 xk, .int .i64 xc, .slice va xl.length vc] 103)).heap[q]? = some (.cells #[.int .i64 xo, .int .i64 xk, .int .i64 xc, .slice va xl.length vc] 103 (0, 0)) := heap_is hq
  have hN2 := hN.below hb2
  have hO2 := hO.trans (Only.new hb2 fun _ => False) fun _ _ => False.elim
  have hd1 := hd.only hO (fun x _ hx => hnb x hx)
  have ho1 := ho.only hO (fun x _ hx => hnb x hx)
  clear hd ho hnb hq
  have hfin : ∀ w' (M' : Nd) (k : Nat), RR = (M', k) → NdAt false w' L M' ∧ Only L.S w w' → Post (.returned (.int .i64 k)) w' := fun w' M' k e ⟨h1, h2⟩ => by
    rw [← HPOST.out, e]
    exact ⟨L, SameLay.refl L, rfl, h1, h2⟩
  have hfin2 : ∀ w' (M' : Nd) (k : Nat), RR = (M', k) → (∃ L', SameLay L L' ∧ NdAt false w' L' M') ∧ Only L.S w w' → Post (.returned (.int .i64 k)) w' := fun w' M' k e ⟨⟨L', h0, h1⟩, h2⟩ => by
    rw [← HPOST.out, e]
    exact ⟨L', h0, rfl, h1, h2⟩
  have HF := Lib.hid hfin
  have HF2 := Lib.hid hfin2
  clear hfin hfin2
  by_cases hn0 : n = 0
  · obtain ⟨⟨i1, i2, i3, i4⟩, -, -⟩ := HZ.out hn0
    obtain ⟨c, rfl⟩ : ∃ k : Nat, c = k := ⟨c.toNat, by omega⟩
    obtain ⟨b, rfl⟩ : ∃ k : Nat, b = k := ⟨b.toNat, by omega⟩
    subst hn0
    have hrd := HRD.out
    rw [if_neg (by simp)] at hrd
    clear HRD
    have s := S1.out
    have hcm : c ≤ M1.mem := by rw [s.1]; omega
    have hbm : b < M1.blk := by rw [s.2.1]; omega
    clear s S1
    have t2 := cells_at (heap_keep hb2 hT) 2 _ rfl
    have t3 := cells_at (heap_keep hb2 hT) 3 _ rfl
    have t8 := cells_at hT 8 _ rfl
    have t8f := froz_at hT 8
    simp only [List.getElem_toArray, List.getElem_cons_succ, List.getElem_cons_zero] at t2 t3 t8
    have hlb : L.cb c < w1.heap.size := (hN.blk c hcm).lt
    have hlg : L.pb c b < w1.heap.size := (hN.pgs c b hcm hbm).lt
    have hlq := heap_lt hQ
    have q1 := cells_at hQ 1 _ rfl
    have t4 := cells_at (heap_keep hb2 hT) 4 _ rfl
    simp only [List.getElem_toArray, List.getElem_cons_succ, List.getElem_cons_zero] at t4
    have hcs := hN2.chips.cell (o := c) (show c < M1.mem + 1 by omega)
    have hlcs := cell_lt hcs
    have dc : (c : Int) < (M1.mem : Int) + 1 := by omega
    have db : (b : Int) < M1.blk := by omega
    by_cases hin : M1.pageIn p ∧ d.length = M1.siz ∧ o.length = 64
    · rw [if_neg (fun hh => hh hin)] at hrd
      obtain ⟨⟨j1, j2⟩, e3, e4⟩ := hin
      obtain ⟨p, rfl⟩ : ∃ k : Nat, p = k := ⟨p.toNat, by omega⟩
      simp only [Int.toNat_natCast] at hrd
      have hpm : p < M1.pgs := by omega
      have hblk := hN2.blk c hcm
      have hk0 := hblk.cell (o := b * 4) (by omega)
      have hk1 := hblk.cell (o := b * 4 + 1) (by omega)
      have hk3 := hblk.cell (o := b * 4 + 3) (by omega)
      rw [blkCells0] at hk0
      rw [blkCells1] at hk1
      rw [blkCells3] at hk3
      have hkf := hblk.froz
      have e3' : ((d.length : Int) != (M1.siz : Int)) = false := by first | (rw [bne_iff_ne]; omega) | (simp; omega) | (simp only [bne_eq_false_iff_eq]; omega) | (rw [decide_eq_false_iff_not]; omega)
      have e4' : ((o.length : Int) != 64) = false := by first | (rw [bne_iff_ne]; omega) | (simp; omega) | (simp only [bne_eq_false_iff_eq]; omega) | (rw [decide_eq_false_iff_not]; omega)
      have d1 : ¬ (p : Int) < 0 := by omega
      have d2 : ¬ M1.pgs ≤ p := by omega
      have E3 := Lib.hid e3
      have E4 := Lib.hid e4
      clear e3 e4
      by_cases hk : xk = 2
      · rw [if_pos hk] at hrd
        have hk' : (xk == 2) = true := by simp [hk]
        have hN3 := (hN.setOff true).below ((Below.refl _ _).alloc (Nat.le_refl _) (.cells #[.int .i64 xo, .int .i64 xk, .int .i64 xc, .slice va xl.length vc] 103))
        have hO3 := (hO.set ⟨L.p, 8, none⟩ (.bool true) (fun _ => hN.Sp)).alloc (.cells #[.int .i64 xo, .int .i64 xk, .int .i64 xc, .slice va xl.length vc] 103)
        have hblk3 := (hN.setOff true).blk c hcm
        have hk0 := hblk3.cell (o := b * 4) (show b * 4 < M1.blk * 4 by omega)
        have hk1 := hblk3.cell (o := b * 4 + 1) (show b * 4 + 1 < M1.blk * 4 by omega)
        have hk3 := hblk3.cell (o := b * 4 + 3) (show b * 4 + 3 < M1.blk * 4 by omega)
        rw [blkCells0] at hk0
        rw [blkCells1] at hk1
        rw [blkCells3] at hk3
        simp only at hk0 hk1 hk3
        clear hblk3
        by_cases hcond : (p : Int) = M1.next c b ∧ M1.bad c b = false
        · rw [if_pos hcond] at hrd
          obtain ⟨hnx, hbd⟩ := hcond
          have hnx' : p = M1.next c b := by omega
          have hnn : M1.next c b ≤ 200 := by omega
          rw [← hnx'] at hk1
          rw [hbd] at hk3
          have hpp : ((p : Int) == (p : Int)) = true := by simp
          obtain ⟨qe, hqe⟩ : ∃ qe, qe = w1.heap.size := ⟨_, rfl⟩
          have hQ3 : ((w1.setCell ⟨L.p, 8, none⟩ (.bool true)).alloc (.cells #[.int .i64 xo, .int .i64 xk, .int .i64 xc, .slice va xl.length vc] 103)).heap[qe]? = some (.cells #[.int .i64 xo, .int .i64 xk, .int .i64 xc, .slice va xl.length vc] 103 (0, 0)) := heap_is (by rw [hqe, size_set])
          have hv3 : RB ((w1.setCell ⟨L.p, 8, none⟩ (.bool true)).alloc (.cells #[.int .i64 xo, .int .i64 xk, .int .i64 xc, .slice va xl.length vc] 103)) (.slice va xl.length vc) xl :=
            (hv.only (Only.of_set w1 ⟨L.p, 8, none⟩ (.bool true)) (fun y _ e => by rw [e]; exact hN.noByte hN.Sp)).below ((Below.refl _ _).alloc (Nat.le_refl _) _)
          have HX := Lib.hid (⟨hN3, hO3, hQ3, hv3⟩ : _ ∧ _ ∧ _ ∧ _)
          have HRR := Lib.hid hrd
          have HNX := Lib.hid hnx'
          clear hk hT hv hN hO hb2 hN2 hO2 hQ hd1 ho1 hblk hN3 hO3 hQ3 hnx hnx' hbd hv3 hrd
          go_wp2_with fail
          rw [← hqe]
          clear hqe
          obtain ⟨hNW, hOW, hQW, hvW⟩ := HX.out
          clear HX
          generalize hWW : ((w1.setCell ⟨L.p, 8, none⟩ (.bool true)).alloc (.cells #[.int .i64 xo, .int .i64 xk, .int .i64 xc, .slice va xl.length vc] 103)) = w4 at hNW hOW hQW hvW ⊢
          clear hWW
          have hk0' : ∀ w', Below w4.heap.size w4 w' → w'.cell? ⟨L.cb c, b * 4, none⟩ = some (.slice (some ⟨L.pb c b, 0, none⟩) M1.pgs (L.pc c b)) := fun w' hb => by
            have := (hNW.below hb).blk c hcm |>.cell (o := b * 4) (by show b * 4 < M1.blk * 4; omega)
            rw [blkCells0] at this; exact this
          have ev0 : ∀ w', Below w4.heap.size w4 w' → w'.cell? ⟨qe, 0, none⟩ = some (.int .i64 xo) := fun w' hb => cells_at (heap_keep hb hQW) 0 _ rfl
          have ev1 : ∀ w', Below w4.heap.size w4 w' → w'.cell? ⟨qe, 1, none⟩ = some (.int .i64 xk) := fun w' hb => cells_at (heap_keep hb hQW) 1 _ rfl
          have ev2 : ∀ w', Below w4.heap.size w4 w' → w'.cell? ⟨qe, 2, none⟩ = some (.int .i64 xc) := fun w' hb => cells_at (heap_keep hb hQW) 2 _ rfl
          have ev3 : ∀ w', Below w4.heap.size w4 w' → w'.cell? ⟨qe, 3, none⟩ = some (.slice va xl.length vc) := fun w' hb => cells_at (heap_keep hb hQW) 3 _ rfl
          have hpm' : (p : Int) < M1.pgs := by omega
          (refine wp_region_mix [0, 1, 2, 3, 4, 5, 6, 7, 8, 9] [(true, true), (true, true), (true, true), (true, false), (true, true), (true, true), (true, false), (false, true), (true, true), (false, false)] [0, 1, 3, 7, 0, 0, 0, 96, 255, 511] (fun w' => Below w4.heap.size w4 w') (by kernel_rfl) (by kernel_rfl) ?_ ?_; rotate_left; simp only [pickL, List.map_cons, List.map_nil, List.getD_cons_succ, List.getD_cons_zero])
          rotate_left
          focus exact (Below.refl _ _).drew
          (repeat (first | (refine mix_pure (fun hne K hK => ?_); go_simp; refine hK _ ?_; clear hK K hne) | (refine mix_load ?_ (fun K hK => ?_); (focus (first | rfl | (go_simp; done))); apply Exists.intro; apply And.intro; (focus (intro w' hC; go_simp; exact rfl)); go_simp; refine hK _ ?_; clear hK K) | (refine mix_skip ?_ (fun K hK => ?_); (focus (first | rfl | (go_simp; done))); go_simp; refine hK _ ?_; clear hK K)))
          (refine mix_one (by first | rfl | (go_simp; done)) (fun R hR hX => ?_))
          go_wp2_with fail
          refine (rleft_calls hNW.drew ⟨xo, xk, xc, xl⟩ (.slice va xl.length vc) hvW HXL.out).mono ?_
          rintro e w5 ⟨v1, rfl, hv1, hb5⟩
          replace hv1 : RB w5 v1 (leftOf M1.siz xl) := hv1
          have hs1 : ∃ a n k, v1 = .slice a n k := by obtain ⟨a, k, e, -, -⟩ := hv1.form; exact ⟨_, _, _, e⟩
          obtain ⟨a1, n1, k1, rfl⟩ := hs1
          have hb45 : Below w4.heap.size w4 w5 := (Below.refl w4.heap.size w4).drew.trans hb5
          go_wp2_with fail
          refine hR _ _ rfl ⟨_, hb45, fun _ => rfl, ?_⟩
          clear hR hX R
          (repeat (first | (refine mix_pure (fun hne K hK => ?_); go_simp; refine hK _ ?_; clear hK K hne) | (refine mix_load ?_ (fun K hK => ?_); (focus (first | rfl | (go_simp; done))); apply Exists.intro; apply And.intro; (focus (intro w' hC; go_simp; exact rfl)); go_simp; refine hK _ ?_; clear hK K) | (refine mix_skip ?_ (fun K hK => ?_); (focus (first | rfl | (go_simp; done))); go_simp; refine hK _ ?_; clear hK K)))
          (refine mix_one (by first | rfl | (go_simp; done)) (fun R hR hX => ?_))
          have hN5 := hNW.below hb45
          have g0 := (hN5.pgs c b hcm hbm).cell (o := p) (by show p < M1.pgs * 1; omega)
          have gf := (hN5.pgs c b hcm hbm).froz
          have hput := hN5.putPg1 (p := p) (l := leftOf M1.siz xl) hcm hbm hpm (.inr (leftOf_length _ _)) hv1
          have hOP : Only L.S w5 _ := ((Only.refl L.S w5).set ⟨L.pb c b, p, none⟩ (.slice a1 n1 k1) (fun _ => hN5.Sg hcm hbm))
          have hO5 := (hOW.trans (Only.new hb45 fun _ => False) fun _ _ => False.elim).trans hOP fun _ _ h => h
          have HX := Lib.hid (⟨hput, hO5⟩ : _ ∧ _)
          clear hv1 hput hOP hO5
          go_wp2_with fail
          ((try simp only [wpList]); refine hR _ _ rfl ⟨fun w' => w' = _, rfl, (fun h => by cases h), ?_⟩; clear hR hX R)
          refine mix_done ?_
          obtain ⟨⟨L', hL, hN6⟩, hO6⟩ := HX.out
          have hcb := hL.cb
          clear HX hN5 g0 gf hNW hOW hQW hk0' ev0 ev1 ev2 ev3
          generalize (w5.setCell ⟨L.pb c b, p, none⟩ (.slice a1 n1 k1)) = w6 at hN6 hO6 ⊢
          have hkn := (hN6.blk c hcm).cell (o := b * 4 + 1) (by show b * 4 + 1 < M1.blk * 4; omega)
          have hkg := (hN6.blk c hcm).froz (b * 4 + 1)
          rw [blkCells1, hcb] at hkn
          rw [hcb] at hkg
          simp only at hkn
          have hlay : NdAt false (w6.setCell ⟨L.cb c, b * 4 + 1, none⟩ (.int .i64 ((M1.next c b : Int) + 1))) L' (Nd.lay { M1 with off := true } c b p (leftOf M1.siz xl)) := by
            have := hN6.setNext (c := c) (b := b) hcm hbm (M1.next c b + 1) (by omega)
            rw [hcb, Int.natCast_add] at this
            exact this
          have hSb : L.S (L.cb c) := by
            have := hN6.Sb (c := c) hcm
            unfold NdLay.S at this ⊢
            rw [hL.tag, hcb] at this; exact this
          have hOl := hO6.set ⟨L.cb c, b * 4 + 1, none⟩ (.int .i64 ((M1.next c b : Int) + 1)) (fun _ => hSb)
          have HX2 := Lib.hid (HF2.out _ _ _ HRR.out ⟨⟨L', hL, hlay⟩, hOl⟩)
          clear hlay hOl hN6 hO6 hcb hL hk1 hk3 hk0 HNX
          go_wp2_with fail
          exact HX2.out
        · rw [if_neg hcond] at hrd
          have HX := Lib.hid (HF.out _ _ _ hrd ⟨hN3, hO3⟩)
          by_cases hnx : (p : Int) = M1.next c b
          · have hbd : M1.bad c b = true := by
              cases e : M1.bad c b
              · exact absurd ⟨hnx, e⟩ hcond
              · rfl
            have hnx' : p = M1.next c b := by omega
            rw [← hnx'] at hk1
            rw [hbd] at hk3
            have hpp : ((p : Int) == (p : Int)) = true := by simp
            clear hk hT hv hN hO hb2 hrd hN2 hO2 hQ hd1 ho1 hblk hN3 hO3 hcond hbd hnx hnx'
            go_wp2_with fail
            exact HX.out
          · have hnx' : ¬ p = M1.next c b := by omega
            have hpp : ((p : Int) == (M1.next c b : Int)) = false := by rw [beq_eq_false_iff_ne]; omega
            clear hk hT hv hN hO hb2 hrd hN2 hO2 hQ hd1 ho1 hblk hN3 hO3 hcond hnx
            go_wp2_with fail
            exact HX.out
      · rw [if_neg hk] at hrd
        have hk' : (xk == 2) = false := by simp [hk]
        by_cases hbd : M1.bad c b = true
        · rw [if_pos hbd] at hrd
          have HX := Lib.hid (HF.out _ _ _ hrd ⟨hN2, hO2⟩)
          rw [hbd] at hk3
          clear hk hT hv hN hO hb2 hrd hN2 hO2 hQ hd1 ho1 hblk hbd
          go_wp2_with fail
          exact HX.out
        · rw [if_neg hbd] at hrd
          have hbd' : M1.bad c b = false := by simpa using hbd
          rw [hbd'] at hk3
          by_cases hnx : (p : Int) = M1.next c b
          · rw [if_neg (fun hh => hh hnx)] at hrd
            have hnx' : p = M1.next c b := by omega
            rw [← hnx'] at hk1
            have hnn : ((p : Int) != (p : Int)) = false := by simp
            by_cases hk1' : xk = 1
            · rw [if_pos hk1'] at hrd
              have hrr : M1.next c b ≤ 200 := by omega
              have hNN : NdAt false ((w1.setCell ⟨L.cb c, b * 4 + 1, none⟩ (.int .i64 ((p : Int) + 1))).alloc (.cells #[.int .i64 xo, .int .i64 xk, .int .i64 xc, .slice va xl.length vc] 103)) L { M1 with next := upd2 M1.next c b (M1.next c b + 1) } := by
                have := (hN.setNext (c := c) (b := b) hcm hbm (M1.next c b + 1) (by omega)).below ((Below.refl _ _).alloc (Nat.le_refl _) (.cells #[.int .i64 xo, .int .i64 xk, .int .i64 xc, .slice va xl.length vc] 103))
                rw [Int.natCast_add, ← hnx'] at this
                rw [← hnx']; exact this
              have hON := (hO.set ⟨L.cb c, b * 4 + 1, none⟩ (.int .i64 ((p : Int) + 1)) (fun _ => hN.Sb hcm)).alloc (.cells #[.int .i64 xo, .int .i64 xk, .int .i64 xc, .slice va xl.length vc] 103)
              have hSO := Only.of_set w1 ⟨L.cb c, b * 4 + 1, none⟩ (.int .i64 ((p : Int) + 1))
              have hnbb : ∀ y, y < w1.heap.size → y = L.cb c → NoByte w1 y := fun y _ e => by rw [e]; exact hN.noByte (hN.Sb hcm)
              have hal := (Below.refl (w1.setCell ⟨L.cb c, b * 4 + 1, none⟩ (.int .i64 ((p : Int) + 1))).heap.size (w1.setCell ⟨L.cb c, b * 4 + 1, none⟩ (.int .i64 ((p : Int) + 1)))).alloc (Nat.le_refl _) (.cells #[.int .i64 xo, .int .i64 xk, .int .i64 xc, .slice va xl.length vc] 103)
              have hk1t : (xk == 1) = true := by simp [hk1']
              obtain ⟨qe, hqe⟩ : ∃ qe, qe = w1.heap.size := ⟨_, rfl⟩
              have hQ3 : ((w1.setCell ⟨L.cb c, b * 4 + 1, none⟩ (.int .i64 ((p : Int) + 1))).alloc (.cells #[.int .i64 xo, .int .i64 xk, .int .i64 xc, .slice va xl.length vc] 103)).heap[qe]? = some (.cells #[.int .i64 xo, .int .i64 xk, .int .i64 xc, .slice va xl.length vc] 103 (0, 0)) := heap_is (by rw [hqe, size_set])
              have hv3 : RB ((w1.setCell ⟨L.cb c, b * 4 + 1, none⟩ (.int .i64 ((p : Int) + 1))).alloc (.cells #[.int .i64 xo, .int .i64 xk, .int .i64 xc, .slice va xl.length vc] 103)) (.slice va xl.length vc) xl := (hv.only hSO hnbb).below hal
              have HX := Lib.hid (⟨hNN, hON, hQ3, hv3⟩ : _ ∧ _ ∧ _ ∧ _)
              have HRR := Lib.hid hrd
              have hpl : p ≤ 200 := by omega
              clear hk hT hv hN hO hb2 hN2 hO2 hQ hd1 ho1 hblk hQ3 hnx hnx' hbd hbd' hv3 hrd hk1' hNN hON hSO hnbb hal hrr
              go_wp2_with fail
              rw [← hqe]
              clear hqe
              obtain ⟨hNW, hOW, hQW, hvW⟩ := HX.out
              clear HX
              generalize hWW : ((w1.setCell ⟨L.cb c, b * 4 + 1, none⟩ (.int .i64 ((p : Int) + 1))).alloc (.cells #[.int .i64 xo, .int .i64 xk, .int .i64 xc, .slice va xl.length vc] 103)) = w4 at hNW hOW hQW hvW ⊢
              clear hWW
              have hk0' : ∀ w', Below w4.heap.size w4 w' → w'.cell? ⟨L.cb c, b * 4, none⟩ = some (.slice (some ⟨L.pb c b, 0, none⟩) M1.pgs (L.pc c b)) := fun w' hb => by
                have := (hNW.below hb).blk c hcm |>.cell (o := b * 4) (by show b * 4 < M1.blk * 4; omega)
                rw [blkCells0] at this; exact this
              have ev0 : ∀ w', Below w4.heap.size w4 w' → w'.cell? ⟨qe, 0, none⟩ = some (.int .i64 xo) := fun w' hb => cells_at (heap_keep hb hQW) 0 _ rfl
              have ev1 : ∀ w', Below w4.heap.size w4 w' → w'.cell? ⟨qe, 1, none⟩ = some (.int .i64 xk) := fun w' hb => cells_at (heap_keep hb hQW) 1 _ rfl
              have ev2 : ∀ w', Below w4.heap.size w4 w' → w'.cell? ⟨qe, 2, none⟩ = some (.int .i64 xc) := fun w' hb => cells_at (heap_keep hb hQW) 2 _ rfl
              have ev3 : ∀ w', Below w4.heap.size w4 w' → w'.cell? ⟨qe, 3, none⟩ = some (.slice va xl.length vc) := fun w' hb => cells_at (heap_keep hb hQW) 3 _ rfl
              have hpm' : (p : Int) < M1.pgs := by omega
              (refine wp_region_mix [0, 1, 2, 3, 4, 5, 6, 7, 8, 9] [(true, true), (true, true), (true, true), (true, false), (true, true), (true, true), (true, false), (false, true), (true, true), (false, false)] [0, 1, 3, 7, 0, 0, 0, 96, 255, 511] (fun w' => Below w4.heap.size w4 w') (by kernel_rfl) (by kernel_rfl) ?_ ?_; rotate_left; simp only [pickL, List.map_cons, List.map_nil, List.getD_cons_succ, List.getD_cons_zero])
              rotate_left
              focus exact (Below.refl _ _).drew
              (repeat (first | (refine mix_pure (fun hne K hK => ?_); go_simp; refine hK _ ?_; clear hK K hne) | (refine mix_load ?_ (fun K hK => ?_); (focus (first | rfl | (go_simp; done))); apply Exists.intro; apply And.intro; (focus (intro w' hC; go_simp; exact rfl)); go_simp; refine hK _ ?_; clear hK K) | (refine mix_skip ?_ (fun K hK => ?_); (focus (first | rfl | (go_simp; done))); go_simp; refine hK _ ?_; clear hK K)))
              (refine mix_one (by first | rfl | (go_simp; done)) (fun R hR hX => ?_))
              go_wp2_with fail
              refine (rleft_calls hNW.drew ⟨xo, xk, xc, xl⟩ (.slice va xl.length vc) hvW HXL.out).mono ?_
              rintro e w5 ⟨v1, rfl, hv1, hb5⟩
              replace hv1 : RB w5 v1 (leftOf M1.siz xl) := hv1
              have hs1 : ∃ a n k, v1 = .slice a n k := by obtain ⟨a, k, e, -, -⟩ := hv1.form; exact ⟨_, _, _, e⟩
              obtain ⟨a1, n1, k1, rfl⟩ := hs1
              have hb45 : Below w4.heap.size w4 w5 := (Below.refl w4.heap.size w4).drew.trans hb5
              go_wp2_with fail
              refine hR _ _ rfl ⟨_, hb45, fun _ => rfl, ?_⟩
              clear hR hX R
              (repeat (first | (refine mix_pure (fun hne K hK => ?_); go_simp; refine hK _ ?_; clear hK K hne) | (refine mix_load ?_ (fun K hK => ?_); (focus (first | rfl | (go_simp; done))); apply Exists.intro; apply And.intro; (focus (intro w' hC; go_simp; exact rfl)); go_simp; refine hK _ ?_; clear hK K) | (refine mix_skip ?_ (fun K hK => ?_); (focus (first | rfl | (go_simp; done))); go_simp; refine hK _ ?_; clear hK K)))
              (refine mix_one (by first | rfl | (go_simp; done)) (fun R hR hX => ?_))
              have hN5 := hNW.below hb45
              have g0 := (hN5.pgs c b hcm hbm).cell (o := p) (by show p < M1.pgs * 1; omega)
              have gf := (hN5.pgs c b hcm hbm).froz
              have hput := hN5.putPg1 (p := p) (l := leftOf M1.siz xl) hcm hbm hpm (.inr (leftOf_length _ _)) hv1
              have hOP : Only L.S w5 _ := ((Only.refl L.S w5).set ⟨L.pb c b, p, none⟩ (.slice a1 n1 k1) (fun _ => hN5.Sg hcm hbm))
              have hO5 := (hOW.trans (Only.new hb45 fun _ => False) fun _ _ => False.elim).trans hOP fun _ _ h => h
              have HX := Lib.hid (⟨hput, hO5⟩ : _ ∧ _)
              clear hv1 hput hOP hO5
              go_wp2_with fail
              ((try simp only [wpList]); refine hR _ _ rfl ⟨fun w' => w' = _, rfl, (fun h => by cases h), ?_⟩; clear hR hX R)
              refine mix_done ?_
              obtain ⟨⟨L', hL, hN6⟩, hO6⟩ := HX.out
              have hcb := hL.cb
              clear HX hN5 g0 gf hNW hOW hQW hk0' ev0 ev1 ev2 ev3
              generalize (w5.setCell ⟨L.pb c b, p, none⟩ (.slice a1 n1 k1)) = w6 at hN6 hO6 ⊢
              have hkc := (hN6.blk c hcm).cell (o := b * 4 + 3) (by show b * 4 + 3 < M1.blk * 4; omega)
              have hkh := (hN6.blk c hcm).froz (b * 4 + 3)
              rw [blkCells3, hcb] at hkc
              rw [hcb] at hkh
              have hsp := hN6.setBad (c := c) (b := b) hcm hbm true
              rw [hcb] at hsp
              have hSb : L.S (L.cb c) := by
                have := hN6.Sb (c := c) hcm
                unfold NdLay.S at this ⊢
                rw [hL.tag, hcb] at this; exact this
              have hOs := hO6.set ⟨L.cb c, b * 4 + 3, none⟩ (.bool true) (fun _ => hSb)
              have HX2 := Lib.hid (HF2.out _ _ _ HRR.out ⟨⟨L', hL, hsp⟩, hOs⟩)
              clear hN6 hO6 hcb hL hk1 hk3 hk0 hsp hOs
              go_wp2_with fail
              exact HX2.out
            · rw [if_neg hk1'] at hrd
              have hrr : M1.next c b ≤ 200 := by omega
              have hNN : NdAt false ((w1.setCell ⟨L.cb c, b * 4 + 1, none⟩ (.int .i64 ((p : Int) + 1))).alloc (.cells #[.int .i64 xo, .int .i64 xk, .int .i64 xc, .slice va xl.length vc] 103)) L { M1 with next := upd2 M1.next c b (M1.next c b + 1) } := by
                have := (hN.setNext (c := c) (b := b) hcm hbm (M1.next c b + 1) (by omega)).below ((Below.refl _ _).alloc (Nat.le_refl _) (.cells #[.int .i64 xo, .int .i64 xk, .int .i64 xc, .slice va xl.length vc] 103))
                rw [Int.natCast_add, ← hnx'] at this
                rw [← hnx']; exact this
              have hON := (hO.set ⟨L.cb c, b * 4 + 1, none⟩ (.int .i64 ((p : Int) + 1)) (fun _ => hN.Sb hcm)).alloc (.cells #[.int .i64 xo, .int .i64 xk, .int .i64 xc, .slice va xl.length vc] 103)
              have hSO := Only.of_set w1 ⟨L.cb c, b * 4 + 1, none⟩ (.int .i64 ((p : Int) + 1))
              have hnbb : ∀ y, y < w1.heap.size → y = L.cb c → NoByte w1 y := fun y _ e => by rw [e]; exact hN.noByte (hN.Sb hcm)
              have hal := (Below.refl (w1.setCell ⟨L.cb c, b * 4 + 1, none⟩ (.int .i64 ((p : Int) + 1))).heap.size (w1.setCell ⟨L.cb c, b * 4 + 1, none⟩ (.int .i64 ((p : Int) + 1)))).alloc (Nat.le_refl _) (.cells #[.int .i64 xo, .int .i64 xk, .int .i64 xc, .slice va xl.length vc] 103)
              have hk1t : (xk == 1) = false := by simp [hk1']
              have hd2 : RB ((w1.setCell ⟨L.cb c, b * 4 + 1, none⟩ (.int .i64 ((p : Int) + 1))).alloc (.cells #[.int .i64 xo, .int .i64 xk, .int .i64 xc, .slice va xl.length vc] 103)) (.slice ad d.length cd) d := (hd1.only hSO hnbb).below hal
              have ho2 : RB ((w1.setCell ⟨L.cb c, b * 4 + 1, none⟩ (.int .i64 ((p : Int) + 1))).alloc (.cells #[.int .i64 xo, .int .i64 xk, .int .i64 xc, .slice va xl.length vc] 103)) (.slice ao o.length co) o := (ho1.only hSO hnbb).below hal
              have HX := Lib.hid (⟨hNN, hON, hd2, ho2⟩ : _ ∧ _ ∧ _ ∧ _)
              have HRR := Lib.hid hrd
              have hpl : p ≤ 200 := by omega
              obtain ⟨iu, hiu, hz0, hz1, hz2⟩ := info_parts infoU8
              clear hk hT hv hN hO hb2 hN2 hO2 hQ hd1 ho1 hblk hnx hnx' hbd hbd' hrd hk1' hd2 ho2 hNN hON hSO hnbb hal hrr
              go_wp2_with fail
              obtain ⟨hNW, hOW, hdW, hoW⟩ := HX.out
              clear HX
              generalize hWW : ((w1.setCell ⟨L.cb c, b * 4 + 1, none⟩ (.int .i64 ((p : Int) + 1))).alloc (.cells #[.int .i64 xo, .int .i64 xk, .int .i64 xc, .slice va xl.length vc] 103)) = w4 at hNW hOW hdW hoW ⊢
              clear hWW
              have hk0' : ∀ w', Below w4.heap.size w4 w' → w'.cell? ⟨L.cb c, b * 4, none⟩ = some (.slice (some ⟨L.pb c b, 0, none⟩) M1.pgs (L.pc c b)) := fun w' hb => by
                have := (hNW.below hb).blk c hcm |>.cell (o := b * 4) (by show b * 4 < M1.blk * 4; omega)
                rw [blkCells0] at this; exact this
              have hpm' : (p : Int) < M1.pgs := by omega
              (refine wp_region_mix [0, 1, 2, 3, 4, 5, 6, 7, 9, 8, 10, 11, 12] [(true, true), (true, true), (true, true), (true, false), (true, true), (true, true), (true, true), (true, true), (true, true), (false, true), (false, true), (true, true), (false, false)] [0, 1, 3, 7, 0, 0, 0, 64, 224, 0, 992, 2047, 4095] (fun w' => Below w4.heap.size w4 w') (by kernel_rfl) (by kernel_rfl) ?_ ?_; rotate_left; simp only [pickL, List.map_cons, List.map_nil, List.getD_cons_succ, List.getD_cons_zero])
              rotate_left
              focus exact (Below.refl _ _).drew
              (repeat (first | (refine mix_pure (fun hne K hK => ?_); go_simp; refine hK _ ?_; clear hK K hne) | (refine mix_load ?_ (fun K hK => ?_); (focus (first | rfl | (go_simp; done))); apply Exists.intro; apply And.intro; (focus (intro w' hC; go_simp; exact rfl)); go_simp; refine hK _ ?_; clear hK K) | (refine mix_skip ?_ (fun K hK => ?_); (focus (first | rfl | (go_simp; done))); go_simp; refine hK _ ?_; clear hK K)))
              (refine mix_one (by first | rfl | (go_simp; done)) (fun R hR hX => ?_))
              go_wp2_with fail
              refine (part_calls (.slice ad d.length cd) d 0 d.length w4.drew hdW (by omega) (by omega)).mono ?_
              rintro e w5 ⟨u1, rfl, hu1, hg1⟩
              have hb5 : Below w4.heap.size w4 w5 := (Below.refl w4.heap.size w4).drew.trans hg1
              rw [List.drop_zero, List.take_length] at hu1
              obtain ⟨a1, k1, rfl⟩ := own_slice hu1
              go_wp2_with fail
              refine hR _ _ rfl ⟨_, hb5, fun _ => rfl, ?_⟩
              clear hR hX R hg1
              have hoW' : RV w5 (.slice ao o.length co) (o.map u8v) := hoW.below hb5
              have hbase : w4.drew.heap.size ≤ w5.heap.size := hb5.size
              have ho64 := E4.out
              have hol : (o.map u8v).length ≤ 10000 := by rw [List.length_map]; omega
              have HOLL := Lib.hid hol
              clear ho64 hol
              (repeat (first | (refine mix_pure (fun hne K hK => ?_); go_simp; refine hK _ ?_; clear hK K hne) | (refine mix_load ?_ (fun K hK => ?_); (focus (first | rfl | (go_simp; done))); apply Exists.intro; apply And.intro; (focus (intro w' hC; go_simp; exact rfl)); go_simp; refine hK _ ?_; clear hK K) | (refine mix_skip ?_ (fun K hK => ?_); (focus (first | rfl | (go_simp; done))); go_simp; refine hK _ ?_; clear hK K)))
              (refine mix_one (by first | rfl | (go_simp; done)) (fun R hR hX => ?_))
              go_wp2_with (at_builtin; (refine wpList_append_row rfl _ _ 31 rfl w4.drew.heap.size 5 iu (.int .u8 0) 1 Try.underlying31 hiu hz0 hz1 hz2 rfl (.slice a1 d.length k1) d.length (d.map u8v) rfl hu1 (.slice ao o.length co) (o.map u8v) rfl hoW' (oneCell_u8 _) ?c3 ?c4 hbase ?_))
              case c3 => have := HOLL.out; unfold maxLen; omega
              case c4 => have := HOLL.out; omega
              intro u2 w6 hu2 hg2 _
              have hb6 : Below w4.heap.size w4 w6 := hb5.grown hg2 hb5.size (fun x hx => (hu1.lt x hx).1)
              have hu2' : RB w6 u2 (d ++ o) := by
                have := RV.own hu2
                unfold RB
                rw [List.map_append]; exact this
              clear hg2 hoW' hu1 hu2
              have hs2 : ∃ a n k, u2 = .slice a n k := by obtain ⟨a, k, e, -, -⟩ := hu2'.form; exact ⟨_, _, _, e⟩
              obtain ⟨a2, n2, k2, rfl⟩ := hs2
              simp only [wpList]
              refine hR _ _ rfl ⟨_, hb6, fun _ => rfl, ?_⟩
              clear hR hX R
              (repeat (first | (refine mix_pure (fun hne K hK => ?_); go_simp; refine hK _ ?_; clear hK K hne) | (refine mix_load ?_ (fun K hK => ?_); (focus (first | rfl | (go_simp; done))); apply Exists.intro; apply And.intro; (focus (intro w' hC; go_simp; exact rfl)); go_simp; refine hK _ ?_; clear hK K) | (refine mix_skip ?_ (fun K hK => ?_); (focus (first | rfl | (go_simp; done))); go_simp; refine hK _ ?_; clear hK K)))
              (refine mix_one (by first | rfl | (go_simp; done)) (fun R hR hX => ?_))
              have hN5 := hNW.below hb6
              have g0 := (hN5.pgs c b hcm hbm).cell (o := p) (by show p < M1.pgs * 1; omega)
              have gf := (hN5.pgs c b hcm hbm).froz
              have e3 := E3.out
              have e4 := E4.out
              have hput := hN5.putPg1 (p := p) (l := d ++ o) hcm hbm hpm (.inr (by rw [List.length_append]; show d.length + o.length = M1.siz + 64; omega)) hu2'
              have hOP : Only L.S w6 _ := ((Only.refl L.S w6).set ⟨L.pb c b, p, none⟩ (.slice a2 n2 k2) (fun _ => hN5.Sg hcm hbm))
              have hO5 := (hOW.trans (Only.new hb6 fun _ => False) fun _ _ => False.elim).trans hOP fun _ _ h => h
              have hfin3 : ∃ L', SameLay L L' ∧ NdAt false (w6.setCell ⟨L.pb c b, p, none⟩ (.slice a2 n2 k2)) L' (M1.lay c b p (d ++ o)) := hput
              have HX2 := Lib.hid (HF2.out _ _ _ HRR.out ⟨hfin3, hO5⟩)
              clear hu2' hput hOP hO5 e3 e4 hN5 hNW hOW hdW hoW hfin3
              go_wp2_with fail
              ((try simp only [wpList]); refine hR _ _ rfl ⟨fun w' => w' = _, rfl, (fun h => by cases h), ?_⟩; clear hR hX R)
              refine mix_done ?_
              go_wp2_with fail
              exact HX2.out
          · rw [if_pos hnx] at hrd
            have HX := Lib.hid (HF.out _ _ _ hrd ⟨hN2, hO2⟩)
            have hnx' : ¬ p = M1.next c b := by omega
            have hnx'' : ((p : Int) != (M1.next c b : Int)) = true := by rw [bne_iff_ne]; omega
            clear hk hT hv hN hO hb2 hrd hN2 hO2 hQ hd1 ho1 hblk hbd hbd' hnx
            go_wp2_with fail
            exact HX.out
    · rw [if_pos hin] at hrd
      have hbad : p < 0 ∨ (0 ≤ p ∧ (M1.pgs : Int) ≤ p) ∨ (0 ≤ p ∧ p < M1.pgs ∧ ¬ d.length = M1.siz) ∨ (0 ≤ p ∧ p < M1.pgs ∧ d.length = M1.siz ∧ ¬ o.length = 64) := by
        unfold Nd.pageIn at hin; omega
      clear hin
      by_cases hk : xk = 2
      · rw [if_pos hk] at hrd
        have hN3 := (hN.setOff true).below ((Below.refl _ _).alloc (Nat.le_refl _) (.cells #[.int .i64 xo, .int .i64 xk, .int .i64 xc, .slice va xl.length vc] 103))
        have hO3 := (hO.set ⟨L.p, 8, none⟩ (.bool true) (fun _ => hN.Sp)).alloc (.cells #[.int .i64 xo, .int .i64 xk, .int .i64 xc, .slice va xl.length vc] 103)
        have HX := Lib.hid (HF.out _ _ _ hrd ⟨hN3, hO3⟩)
        have hk' : (xk == 2) = true := by simp [hk]
        clear hk hT hv hN hO hb2 hrd hN2 hO2 hQ hd1 ho1 hN3 hO3
        rcases hbad with e1 | ⟨e1, e2⟩ | ⟨e1, e2, e3⟩ | ⟨e1, e2, e3, e4⟩
        · go_wp2_with fail
          exact HX.out
        · go_wp2_with fail
          exact HX.out
        · have e5 : decide (p < 0) = false := by first | (rw [bne_iff_ne]; omega) | (simp; omega) | (simp only [bne_eq_false_iff_eq]; omega) | (rw [decide_eq_false_iff_not]; omega)
          have e6 : decide ((M1.pgs : Int) ≤ p) = false := by first | (rw [bne_iff_ne]; omega) | (simp; omega) | (simp only [bne_eq_false_iff_eq]; omega) | (rw [decide_eq_false_iff_not]; omega)
          have e7 : ((d.length : Int) != (M1.siz : Int)) = true := by first | (rw [bne_iff_ne]; omega) | (simp; omega) | (simp only [bne_eq_false_iff_eq]; omega) | (rw [decide_eq_false_iff_not]; omega)
          go_wp2_with fail
          exact HX.out
        · have e3' : (d.length : Int) = M1.siz := by omega
          have e4' : ¬ (o.length : Int) = 64 := by omega
          have e5 : decide (p < 0) = false := by first | (rw [bne_iff_ne]; omega) | (simp; omega) | (simp only [bne_eq_false_iff_eq]; omega) | (rw [decide_eq_false_iff_not]; omega)
          have e6 : decide ((M1.pgs : Int) ≤ p) = false := by first | (rw [bne_iff_ne]; omega) | (simp; omega) | (simp only [bne_eq_false_iff_eq]; omega) | (rw [decide_eq_false_iff_not]; omega)
          clear e3
          go_wp2_with fail
          exact HX.out
      · rw [if_neg hk] at hrd
        have HX := Lib.hid (HF.out _ _ _ hrd ⟨hN2, hO2⟩)
        have hk' : (xk == 2) = false := by simp [hk]
        clear hk hT hv hN hO hb2 hrd hN2 hO2 hQ hd1 ho1
        rcases hbad with e1 | ⟨e1, e2⟩ | ⟨e1, e2, e3⟩ | ⟨e1, e2, e3, e4⟩
        · go_wp2_with fail
          exact HX.out
        · go_wp2_with fail
          exact HX.out
        · have e5 : decide (p < 0) = false := by first | (rw [bne_iff_ne]; omega) | (simp; omega) | (simp only [bne_eq_false_iff_eq]; omega) | (rw [decide_eq_false_iff_not]; omega)
          have e6 : decide ((M1.pgs : Int) ≤ p) = false := by first | (rw [bne_iff_ne]; omega) | (simp; omega) | (simp only [bne_eq_false_iff_eq]; omega) | (rw [decide_eq_false_iff_not]; omega)
          have e7 : ((d.length : Int) != (M1.siz : Int)) = true := by first | (rw [bne_iff_ne]; omega) | (simp; omega) | (simp only [bne_eq_false_iff_eq]; omega) | (rw [decide_eq_false_iff_not]; omega)
          go_wp2_with fail
          exact HX.out
        · have e3' : (d.length : Int) = M1.siz := by omega
          have e4' : ¬ (o.length : Int) = 64 := by omega
          have e5 : decide (p < 0) = false := by first | (rw [bne_iff_ne]; omega) | (simp; omega) | (simp only [bne_eq_false_iff_eq]; omega) | (rw [decide_eq_false_iff_not]; omega)
          have e6 : decide ((M1.pgs : Int) ≤ p) = false := by first | (rw [bne_iff_ne]; omega) | (simp; omega) | (simp only [bne_eq_false_iff_eq]; omega) | (rw [decide_eq_false_iff_not]; omega)
          clear e3
          go_wp2_with fail
          exact HX.out
  · have hrd := HRD.out
    rw [if_pos hn0] at hrd
    have HX := Lib.hid (HF.out _ _ _ hrd ⟨hN2, hO2⟩)
    clear hrd
    go_wp2_with fail
    exact HX.out
end Go.Proofs.Ytphnjiokihbhnaa
