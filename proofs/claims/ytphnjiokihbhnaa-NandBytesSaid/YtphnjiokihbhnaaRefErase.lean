/- gabionref04: a block is erased. -/
--only r2
import Derived.Test.YtphnjiokihbhnaaRefProg
import Derived.Test.YtphnjiokihbhnaaNandErase
import Derived.Test.YtphnjiokihbhnaaNandMake
namespace Go.Proofs.Ytphnjiokihbhnaa
set_option linter.unusedVariables false
set_option linter.unusedSimpArgs false
open Go.RowKit

/-- a layout that came of another one: blocks that it speaks of are that one's, or new -/
def FromLay (w : World) (L L' : NdLay) : Prop := L'.p = L.p ∧ (∀ x, L'.tag x ≠ .none → L.tag x ≠ .none ∨ w.heap.size ≤ x) ∧ ∀ x, L'.S x → L.S x ∨ w.heap.size ≤ x
theorem FromLay.same {w : World} {L L' : NdLay} (h : SameLay L L') : FromLay w L L' := ⟨h.p, fun x hx => .inl (by rw [h.tag] at hx; exact hx), fun x hx => .inl (by rw [h.S] at hx; exact hx)⟩
/-- what the reference's Erase is to end in -/
def REraseEnds (w : World) (L : NdLay) (R : Nd × Nat) (e : Ending) (w' : World) : Prop :=
  ∃ L', FromLay w L L' ∧ e = .returned (.int .i64 R.2) ∧ NdAt false w' L' R.1 ∧ Only L.S w w'
/-- a block gets new pages -/
theorem NdAt.newPg {w w' : World} {L : NdLay} {M : Nd} (h : NdAt false w L M) {c b q : Nat} (hc : c ≤ M.mem) (hb : b < M.blk) (hq : w.heap.size ≤ q) (hO : Only (fun x => x = L.cb c) w w')
    (hnew : Row w' q M.pgs fun _ => nilV) (hblk : Row w' (L.cb c) (M.blk * 4) (fun i => if i = b * 4 then .slice (some ⟨q, 0, none⟩) M.pgs M.pgs else blkCells L M c i)) :
    ∃ L', FromLay w L L' ∧ L'.cb = L.cb ∧ (∀ x, L'.S x → L.S x ∨ w.heap.size ≤ x) ∧ NdAt false w' L' { M with page := fun x y z => if x = c ∧ y = b ∧ z < M.pgs then [] else M.page x y z } := by
  obtain ⟨hr, hpg', he, hlt⟩ := h.others (h.Sb hc) hO
  have hold : ∀ x t, L.tag x = t → t ≠ .none → x < q := fun x t e ht => by have := h.lt x (by rw [e]; exact ht); omega
  have hg := h.tg c b hc hb
  let tg : Nat → Tag := fun x => if x = q then .pages c b else if x = L.pb c b then .none else L.tag x
  have htag : ∀ x t, L.tag x = t → t ≠ .none → t ≠ .pages c b → tg x = t := fun x t e h1 h2 => by
    show (if x = q then Tag.pages c b else if x = L.pb c b then .none else L.tag x) = t
    rw [if_neg (by have := hold x t e h1; omega), if_neg (fun e2 => by rw [e2, hg] at e; exact h2 e.symm), e]
  have hM : ∀ x, x < w.heap.size → w.heap.size ≤ w'.heap.size := fun _ _ => hO.size
  refine ⟨{ L with pb := upd2 L.pb c b q, pc := upd2 L.pc c b M.pgs, pv := fun x y => if x = c ∧ y = b then (fun _ => nilV) else L.pv x y, tag := tg }, ⟨rfl, fun x hx => ?_, fun x hx => ?_⟩, rfl, fun x hx => ?_, ?_⟩
  · by_cases e : x = q
    · right; omega
    · left
      intro e2
      apply hx
      show (if x = q then Tag.pages c b else if x = L.pb c b then .none else L.tag x) = .none
      rw [if_neg e]; split; rfl; exact e2
  · by_cases e : x = q
    · right; omega
    · left
      have hx' : (if x = q then Tag.pages c b else if x = L.pb c b then .none else L.tag x).mut = true := hx
      rw [if_neg e] at hx'
      by_cases e2 : x = L.pb c b
      · rw [if_pos e2] at hx'; cases hx'
      · rw [if_neg e2] at hx'; exact hx'
  · by_cases e : x = q
    · right; omega
    · left
      have hx' : (if x = q then Tag.pages c b else if x = L.pb c b then .none else L.tag x).mut = true := hx
      rw [if_neg e] at hx'
      by_cases e2 : x = L.pb c b
      · rw [if_pos e2] at hx'; cases hx'
      · rw [if_neg e2] at hx'; exact hx'
  · refine ⟨h.ok.setPage _ fun x y z => ?_, hO.at h.top (h.ne_tag h.tp (h.tb c hc) (by simp)), h.chips.only hO (h.ne_tag h.tc (h.tb c hc) (by simp)), hr _ _ _ h.dead (h.ne_tag h.td (h.tb c hc) (by simp)),
      fun c' hc' => ?_, fun c' b' hc' hb' => ?_, fun c' b' p' hc' hb' hp' => ?_, he.mono (fun x _ e => htag x _ e (by simp) (by simp)), ⟨h.caps.1, h.caps.2.1, h.caps.2.2.1, fun c' b' hc' hb' => ?_⟩, htag _ _ h.tp (by simp) (by simp), htag _ _ h.td (by simp) (by simp), htag _ _ h.tc (by simp) (by simp),
      fun c' hc' => htag _ _ (h.tb c' hc') (by simp) (by simp), fun c' b' hc' hb' => ?_, fun x hx => ?_, fun x hx => ?_⟩
    · split; exact .inl rfl; exact h.ok.page x y z
    · have hcc : ∀ i, i < M.blk * 4 → ¬ (c' = c ∧ i = b * 4) → blkCells L M c' i = blkCells { L with pb := upd2 L.pb c b q, pc := upd2 L.pc c b M.pgs, pv := fun x y => if x = c ∧ y = b then (fun _ => nilV) else L.pv x y, tag := tg } { M with page := fun x y z => if x = c ∧ y = b ∧ z < M.pgs then [] else M.page x y z } c' i := fun i hi hn => by
        unfold blkCells
        by_cases e4 : i % 4 = 0
        · simp only [e4, if_true]
          rw [upd2_other (by omega), upd2_other (by omega)]
        · simp only [e4, if_false]
      by_cases e : c' = c
      · subst e
        refine hblk.congr fun i hi => ?_
        by_cases e2 : i = b * 4
        · subst e2
          rw [if_pos rfl, blkCells0]
          simp only [upd2_same]
        · rw [if_neg e2]; exact hcc i hi (fun h => e2 h.2)
      · exact (hr _ _ _ (h.blk c' hc') (h.ne_tag (h.tb c' hc') (h.tb c hc) (by simpa using e))).congr fun i hi => hcc i hi (fun h => e h.1)
    · by_cases e : c' = c ∧ b' = b
      · obtain ⟨rfl, rfl⟩ := e
        simp only [upd2_same, and_self, if_true]
        show Row w' q (M.pgs * 1) _
        rw [Nat.mul_one]; exact hnew
      · simp only [upd2_other e, if_neg e]
        exact hr _ _ _ (h.pgs c' b' hc' hb') (h.ne_tag (h.tg c' b' hc' hb') (h.tb c hc) (by simp))
    · by_cases e : c' = c ∧ b' = b
      · obtain ⟨rfl, rfl⟩ := e
        have hp'' : p' < M.pgs := hp'
        simp only [and_self, if_true, true_and, if_pos hp'']
        exact RB.nil _
      · have e' : ¬ (c' = c ∧ b' = b ∧ p' < M.pgs) := fun h => e ⟨h.1, h.2.1⟩
        simp only [if_neg e, if_neg e']
        exact hpg' c' b' p' hc' hb' hp'
    · by_cases e : c' = c ∧ b' = b
      · obtain ⟨rfl, rfl⟩ := e
        simp only [upd2_same]
        exact ⟨Nat.le_refl _, by have := h.ok.pgs; show M.pgs ≤ maxLen; unfold maxLen; omega⟩
      · simp only [upd2_other e]
        exact h.caps.2.2.2 c' b' hc' hb'
    · by_cases e : c' = c ∧ b' = b
      · obtain ⟨rfl, rfl⟩ := e
        simp only [upd2_same]; exact if_pos rfl
      · simp only [upd2_other e]
        exact htag _ _ (h.tg c' b' hc' hb') (by simp) (by simp; intro h1 h2; exact e ⟨h1, h2⟩)
    · have hx' : (if x = q then Tag.pages c b else if x = L.pb c b then .none else L.tag x).mut = true := hx
      by_cases e : x = q
      · exact .inr (.inr (.inr ⟨c, b, hc, hb, by simp only [upd2_same]; exact e⟩))
      · rw [if_neg e] at hx'
        by_cases e2 : x = L.pb c b
        · rw [if_pos e2] at hx'; cases hx'
        · rw [if_neg e2] at hx'
          rcases h.only x hx' with h1 | h1 | h1 | ⟨i, j, hi, hj, h1⟩
          · exact .inl h1
          · exact .inr (.inl h1)
          · exact .inr (.inr (.inl h1))
          · refine .inr (.inr (.inr ⟨i, j, hi, hj, ?_⟩))
            rw [h1]
            exact (upd2_other (fun e3 => e2 (by rw [h1, e3.1, e3.2]))).symm
    · by_cases e : x = q
      · rw [e]; exact hnew.lt
      · have hx' : (if x = q then Tag.pages c b else if x = L.pb c b then .none else L.tag x) ≠ .none := hx
        rw [if_neg e] at hx'
        by_cases e2 : x = L.pb c b
        · rw [if_pos e2] at hx'; exact absurd rfl hx'
        · rw [if_neg e2] at hx'
          exact Nat.lt_of_lt_of_le (h.lt x hx') hO.size

theorem infoBytes : (Try.prog.info? 31).map (fun i => (i.zero, i.size, i.bytes)) = some (some (.slice none 0 0), 1, 24) := by kernel_rfl

set_option maxRecDepth 100000 in
set_option maxHeartbeats 6000000 in
theorem rerase_calls {w : World} {L : NdLay} {M : Nd} (h : NdAt false w L M) (c b : Int) (hc : I64 c) (hb : I64 b) (hops : M.ops < 1000000) :
    Calls Try.prog 39 #[ptrV L.p, .int .i64 c, .int .i64 b] w (REraseEnds w L (M.erase c b)) := by
  have hB := rbegin_calls h c b hc hb hops
  have hxl := begin_left h.ok c b
  have hopz := begin_ops M c b
  have her0 := h.ok.erases
  obtain ⟨s1, s2, s3, s4, s5, s6, s7, s8, s9⟩ := begin_shape M c b
  have hz := begin_zero M c b
  have hrd : M.erase c b = (if (M.begin c b).2.2 ≠ 0 then ((M.begin c b).1, (M.begin c b).2.2) else if (M.begin c b).1.bad c.toNat b.toNat = true ∧ (M.begin c b).2.1.kind ≠ 2 then ((M.begin c b).1, 70)
    else if (M.begin c b).2.1.kind = 2 ∨ (M.begin c b).2.1.kind = 1 then
      (if (M.begin c b).2.1.kind = 1 then ((if (M.begin c b).1.bad c.toNat b.toNat then (M.begin c b).1 else (M.begin c b).1.fill c.toNat b.toNat (M.begin c b).1.pgs (leftOf (M.begin c b).1.siz (M.begin c b).2.1.left)).spoil c.toNat b.toNat, 70) else ({ (if (M.begin c b).1.bad c.toNat b.toNat then (M.begin c b).1 else (M.begin c b).1.fill c.toNat b.toNat (M.begin c b).1.pgs (leftOf (M.begin c b).1.siz (M.begin c b).2.1.left)) with off := true }, 72))
    else (((M.begin c b).1.fill c.toNat b.toNat 0 []).count c.toNat b.toNat, 0)) := rfl
  have HRD := Lib.hid hrd
  clear hrd
  generalize hRR : M.erase c b = RR at HRD ⊢
  clear hRR
  generalize hPost : REraseEnds w L RR = Post
  have HPOST := Lib.hid hPost
  clear hPost
  unfold RBeginEnds at hB
  generalize M.begin c b = R at hB s1 s2 s3 s4 s5 s6 s7 s8 s9 hz HRD hxl hopz
  obtain ⟨M1, x, n⟩ := R
  simp only at hB s1 s2 s3 s4 s5 s6 s7 s8 s9 hz HRD hxl hopz
  obtain ⟨xo, xk, xc, xl⟩ := x
  simp only [evV] at hB
  simp only at HRD hxl
  have HXL := Lib.hid hxl
  have hez : n = 0 → ∀ c b, M1.erases c b + 1 ≤ 4294967295 + M1.ops := fun e c b => by
    rw [hopz e, s7]; have := her0 c b; omega
  have HEZ := Lib.hid hez
  clear hxl hez hopz her0
  have S1 := Lib.hid (⟨s1, s2, s3, s4, s5, s6, s7, s8, s9⟩ : _ ∧ _ ∧ _ ∧ _ ∧ _ ∧ _ ∧ _ ∧ _ ∧ _)
  have HZ := Lib.hid hz
  clear s1 s2 s3 s4 s5 s6 s7 s8 s9 hz h
  have HB := Lib.hid hB
  clear hB
  go_enter Try.func39, Try.ntmps39
  go_wp2_with fail
  refine HB.out.mono ?_
  rintro e w1 ⟨v, rfl, hv, hN, hO⟩
  obtain ⟨va, vc, rfl, -, -⟩ := hv.form
  clear HB
  have hT := hN.top
  have hsz := hN.ok.siz
  have hpg := hN.ok.pgs
  simp only [topCells, Bool.false_eq_true, if_false] at hT
  have hlp := heap_lt hT
  obtain ⟨q, hq⟩ : ∃ q, q = w1.heap.size := ⟨_, rfl⟩
  have hb2 := (Below.refl w1.heap.size w1).alloc (Nat.le_refl _) (.cells #[.int .i64 xo, .int .i64 xk, .int .i64 xc, .slice va xl.length vc] 103)
  have hQ : (w1.alloc (.cells #[.int .i64 xo, .int .i64 xk, .int .i64 xc, .slice va xl.length vc] 103)).heap[q]? = some (.cells #[.int .i64 xo, .int .i64 xk, .int .i64 xc, .slice va xl.length vc] 103 (0, 0)) := heap_is hq
  have hN2 := hN.below hb2
  have hO2 := hO.trans (Only.new hb2 fun _ => False) fun _ _ => False.elim
  rw [hq] at hQ
  clear hq
  have hfin : ∀ w' (M' : Nd) (k : Nat), RR = (M', k) → NdAt false w' L M' ∧ Only L.S w w' → Post (.returned (.int .i64 k)) w' := fun w' M' k e ⟨h1, h2⟩ => by
    rw [← HPOST.out, e]
    exact ⟨L, FromLay.same (SameLay.refl L), rfl, h1, h2⟩
  have hfin2 : ∀ w' (M' : Nd) (k : Nat), RR = (M', k) → (∃ L', FromLay w L L' ∧ NdAt false w' L' M') ∧ Only L.S w w' → Post (.returned (.int .i64 k)) w' := fun w' M' k e ⟨⟨L', h0, h1⟩, h2⟩ => by
    rw [← HPOST.out, e]
    exact ⟨L', h0, rfl, h1, h2⟩
  have HF := Lib.hid hfin
  have HF2 := Lib.hid hfin2
  clear hfin hfin2
  by_cases hn0 : n = 0
  · obtain ⟨⟨i1, i2, i3, i4⟩, -, -⟩ := HZ.out hn0
    obtain ⟨c, rfl⟩ : ∃ k : Nat, c = k := ⟨c.toNat, by omega⟩
    obtain ⟨b, rfl⟩ : ∃ k : Nat, b = k := ⟨b.toNat, by omega⟩
    subst hn0
    have hrd := HRD.out
    rw [if_neg (by simp)] at hrd
    simp only [Int.toNat_natCast] at hrd
    clear HRD
    have s := S1.out
    have hcm : c ≤ M1.mem := by rw [s.1]; omega
    have hbm : b < M1.blk := by rw [s.2.1]; omega
    clear s S1
    have hlb : L.cb c < w1.heap.size := (hN.blk c hcm).lt
    have hlg : L.pb c b < w1.heap.size := (hN.pgs c b hcm hbm).lt
    have hlq := heap_lt hQ
    have q1 := cells_at hQ 1 _ rfl
    have hQ1 : ∀ w2 : World, w2.heap[w1.heap.size]? = some (.cells #[.int .i64 xo, .int .i64 xk, .int .i64 xc, .slice va xl.length vc] 103 (0, 0)) → w2.cell? ⟨w1.heap.size, 1, none⟩ = some (.int .i64 xk) := fun w2 h => cells_at h 1 _ rfl
    have HQ1 := Lib.hid hQ1
    clear hQ1
    have t2 := cells_at hT 2 _ rfl
    have t4 := cells_at hT 4 _ rfl
    simp only [List.getElem_toArray, List.getElem_cons_succ, List.getElem_cons_zero] at t2 t4
    have hcs := hN.chips.cell (o := c) (show c < M1.mem + 1 by omega)
    have hlcs := cell_lt hcs
    have dc : (c : Int) < (M1.mem : Int) + 1 := by omega
    have db : (b : Int) < M1.blk := by omega
    have dp : decide ((0 : Int) < M1.pgs) = true := by simp; omega
    have hblk := hN.blk c hcm
    have hk0 := hblk.cell (o := b * 4) (by omega)
    have hk1 := hblk.cell (o := b * 4 + 1) (by omega)
    have hk2c := hblk.cell (o := b * 4 + 2) (by omega)
    have hk3 := hblk.cell (o := b * 4 + 3) (by omega)
    rw [blkCells0] at hk0
    rw [blkCells1] at hk1
    rw [blkCells2] at hk2c
    rw [blkCells3] at hk3
    have hkf := hblk.froz
    clear hblk
    by_cases hA : M1.bad c b = true ∧ xk ≠ 2
    · rw [if_pos hA] at hrd
      obtain ⟨hbd, hk⟩ := hA
      have HX := Lib.hid (HF.out _ _ _ hrd ⟨hN2, hO2⟩)
      rw [hbd] at hk3
      have hk' : (xk != 2) = true := by rw [bne_iff_ne]; exact hk
      clear hk hT hv hN hO hb2 hrd hN2 hO2 hQ hbd
      go_wp2_with fail
      exact HX.out
    · rw [if_neg hA] at hrd
      by_cases hK : xk = 2 ∨ xk = 1
      · rw [if_pos hK] at hrd
        by_cases hbd : M1.bad c b = true
        · have hk : xk = 2 := by
            by_cases e : xk = 2
            · exact e
            · exact absurd ⟨hbd, e⟩ hA
          rw [if_neg (by omega), if_pos hbd] at hrd
          rw [hbd] at hk3
          have hk' : (xk != 2) = false := by simp [hk]
          have hk'' : (xk == 2) = true := by simp [hk]
          have hkone : (xk == 1) = false := by simp [hk]
          have HX := Lib.hid (⟨hN2, hO2, hQ⟩ : _ ∧ _ ∧ _)
          have HRR := Lib.hid hrd
          have HBD := Lib.hid hbd
          clear hk hT hv hN hO hb2 hrd hN2 hO2 hQ hbd hA hK
          go_wp2_with fail
          obtain ⟨hN2, hO2, hQ⟩ := HX.out
          clear HX hk0 hk1 hk2c hk3 hkf t2 t4 hcs
          generalize hw2 : (w1.alloc (.cells #[.int .i64 xo, .int .i64 xk, .int .i64 xc, .slice va xl.length vc] 103)) = w2 at hN2 hO2 hQ ⊢
          have hqq := q1
          clear hw2 q1
          have hT2 := hN2.top
          simp only [topCells, Bool.false_eq_true, if_false] at hT2
          have t2 := cells_at hT2 2 _ rfl
          have t8 := cells_at hT2 8 _ rfl
          have t8f := froz_at hT2 8
          simp only [List.getElem_toArray, List.getElem_cons_succ, List.getElem_cons_zero] at t2 t8
          have hk3 := (hN2.blk c hcm).cell (o := b * 4 + 3) (by omega)
          rw [blkCells3, HBD.out] at hk3
          have q1 : w2.cell? ⟨w1.heap.size, 1, none⟩ = some (.int .i64 xk) := HQ1.out w2 hQ
          go_loopw [10] (fun i wr => i = .int .i64 0 ∧ wr = w2) (fun i _ => 0)
          case atStart => exact ⟨rfl, rfl⟩
          case round =>
            obtain ⟨rfl, rfl⟩ := hrel
            have hX := HF.out _ _ _ HRR.out ⟨hN2.setOff true, hO2.set ⟨L.p, 8, none⟩ (.bool true) (fun _ => hN2.Sp)⟩
            have HX := Lib.hid hX
            clear hX hN2 hO2 hQ hT2
            go_wp2_with fail
            exact HX.out
        · have hbd' : M1.bad c b = false := by simpa using hbd
          rw [if_neg hbd] at hrd
          rw [hbd'] at hk3
          obtain ⟨qe, hqe⟩ : ∃ qe, qe = w1.heap.size := ⟨_, rfl⟩
          have hQ3 : (w1.alloc (.cells #[.int .i64 xo, .int .i64 xk, .int .i64 xc, .slice va xl.length vc] 103)).heap[qe]? = some (.cells #[.int .i64 xo, .int .i64 xk, .int .i64 xc, .slice va xl.length vc] 103 (0, 0)) := heap_is hqe
          have hv3 := hv.below hb2
          have hqS : L.tag qe = .none := hN.fresh (by omega)
          have HX := Lib.hid (⟨hN2, hO2, hQ3, hv3⟩ : _ ∧ _ ∧ _ ∧ _)
          have HRR := Lib.hid hrd
          have hk'' : ((xk == 2) = true ∧ (xk == 1) = false) ∨ ((xk == 2) = false ∧ (xk == 1) = true) := by
            by_cases e : xk = 2
            · left; simp [e]
            · right; refine ⟨by simp [e], ?_⟩
              have : xk = 1 := hK.resolve_left e
              simp [this]
          have HBD := Lib.hid hbd'
          clear hT hv hN hO hb2 hN2 hO2 hQ hbd hbd' hQ3 hv3 hrd hA
          have hgo : Code.wp Try.prog = Code.wp Try.prog := rfl
          rcases hk'' with ⟨hk2, hk2'⟩ | ⟨hk2, hk3'⟩
          all_goals
            clear hgo hK
            go_wp2_with fail
            rw [← hqe]
            clear hqe
            obtain ⟨hNW, hOW, hQW, hvW⟩ := HX.out
            clear HX
            generalize hWW : (w1.alloc (.cells #[.int .i64 xo, .int .i64 xk, .int .i64 xc, .slice va xl.length vc] 103)) = w3 at hNW hOW hQW hvW ⊢
            clear hWW
            go_loopw [10] (fun i wr => ∃ k : Nat, k ≤ M1.pgs ∧ i = .int .i64 k ∧ ∃ L', SameLay L L' ∧ NdAt false wr L' (M1.filled c b k (leftOf M1.siz xl)) ∧ Only L.S w wr ∧ wr.heap[qe]? = some (.cells #[.int .i64 xo, .int .i64 xk, .int .i64 xc, .slice va xl.length vc] 103 (0, 0)) ∧ RB wr (.slice va xl.length vc) xl) (fun i _ => M1.pgs - (intOf i).toNat)
            case atStart => exact ⟨0, Nat.zero_le _, rfl, L, SameLay.refl L, by rw [filled_zero]; exact hNW, hOW, hQW, hvW⟩
            case round =>
              clear hNW hOW hQW hvW
              obtain ⟨p, hpk, rfl, L1, hL, hNW, hOW, hQW, hvW⟩ := hrel
              have hTw := hNW.top
              simp only [topCells, Bool.false_eq_true, if_false] at hTw
              rw [hL.p] at hTw
              have tw2 := cells_at hTw 2 _ rfl
              have hlpw := heap_lt hTw
              simp only [List.getElem_toArray, List.getElem_cons_succ, List.getElem_cons_zero] at tw2
              replace tw2 : wr.cell? ⟨L.p, 2, none⟩ = some (.int .i64 (M1.pgs : Int)) := tw2
              have tw3 := (hNW.blk c hcm).cell (o := b * 4 + 3) (show b * 4 + 3 < M1.blk * 4 by omega)
              rw [blkCells3, hL.cb] at tw3
              replace tw3 : wr.cell? ⟨L.cb c, b * 4 + 3, none⟩ = some (.bool false) := by rw [tw3]; exact congrArg (fun x => some (Value.bool x)) HBD.out
              have hlbw : L.cb c < wr.heap.size := cell_lt tw3
              clear hTw
              by_cases hpm : p < M1.pgs
              · have hpm' : (p : Int) < M1.pgs := by omega
                have hk0' : ∀ w', Below wr.heap.size wr w' → w'.cell? ⟨L.cb c, b * 4, none⟩ = some (.slice (some ⟨L.pb c b, 0, none⟩) M1.pgs (L.pc c b)) := fun w' hb => by
                  have := (hNW.below hb).blk c hcm |>.cell (o := b * 4) (by show b * 4 < M1.blk * 4; omega)
                  rw [blkCells0, hL.cb, hL.pb, hL.pc] at this; exact this
                have ev0 : ∀ w', Below wr.heap.size wr w' → w'.cell? ⟨qe, 0, none⟩ = some (.int .i64 xo) := fun w' hb => cells_at (heap_keep hb hQW) 0 _ rfl
                have ev1 : ∀ w', Below wr.heap.size wr w' → w'.cell? ⟨qe, 1, none⟩ = some (.int .i64 xk) := fun w' hb => cells_at (heap_keep hb hQW) 1 _ rfl
                have ev2 : ∀ w', Below wr.heap.size wr w' → w'.cell? ⟨qe, 2, none⟩ = some (.int .i64 xc) := fun w' hb => cells_at (heap_keep hb hQW) 2 _ rfl
                have ev3 : ∀ w', Below wr.heap.size wr w' → w'.cell? ⟨qe, 3, none⟩ = some (.slice va xl.length vc) := fun w' hb => cells_at (heap_keep hb hQW) 3 _ rfl
                have hlc := rleft_calls hNW.drew ⟨xo, xk, xc, xl⟩ (.slice va xl.length vc) hvW HXL.out
                rw [hL.p] at hlc
                have HLC := Lib.hid hlc
                clear hlc hk0 hk1 hk2c hk3 q1 hkf t2 t4 hcs
                go_wp2_with fail
                (refine wp_region_mix [0, 1, 2, 3, 4, 5, 6, 7, 8, 9] [(true, true), (true, true), (true, true), (true, false), (true, true), (true, true), (true, false), (false, true), (true, true), (false, false)] [0, 1, 3, 7, 0, 0, 0, 96, 255, 511] (fun w' => Below wr.heap.size wr w') (by kernel_rfl) (by kernel_rfl) ?_ ?_; rotate_left; simp only [pickL, List.map_cons, List.map_nil, List.getD_cons_succ, List.getD_cons_zero])
                rotate_left
                focus exact (Below.refl _ _).drew
                (repeat (first | (refine mix_pure (fun hne K hK => ?_); go_simp; refine hK _ ?_; clear hK K hne) | (refine mix_load ?_ (fun K hK => ?_); (focus (first | rfl | (go_simp; done))); apply Exists.intro; apply And.intro; (focus (intro w' hC; go_simp; exact rfl)); go_simp; refine hK _ ?_; clear hK K) | (refine mix_skip ?_ (fun K hK => ?_); (focus (first | rfl | (go_simp; done))); go_simp; refine hK _ ?_; clear hK K)))
                (refine mix_one (by first | rfl | (go_simp; done)) (fun R hR hX => ?_))
                go_wp2_with fail
                refine HLC.out.mono ?_
                rintro e w5 ⟨v1, rfl, hv1, hb5⟩
                replace hv1 : RB w5 v1 (leftOf M1.siz xl) := hv1
                have hs1 : ∃ a n k, v1 = .slice a n k := by obtain ⟨a, k, e, -, -⟩ := hv1.form; exact ⟨_, _, _, e⟩
                obtain ⟨a1, n1, k1, rfl⟩ := hs1
                have hb45 : Below wr.heap.size wr w5 := (Below.refl wr.heap.size wr).drew.trans hb5
                clear HLC
                go_wp2_with fail
                refine hR _ _ rfl ⟨_, hb45, fun _ => rfl, ?_⟩
                clear hR hX R
                (repeat (first | (refine mix_pure (fun hne K hK => ?_); go_simp; refine hK _ ?_; clear hK K hne) | (refine mix_load ?_ (fun K hK => ?_); (focus (first | rfl | (go_simp; done))); apply Exists.intro; apply And.intro; (focus (intro w' hC; go_simp; exact rfl)); go_simp; refine hK _ ?_; clear hK K) | (refine mix_skip ?_ (fun K hK => ?_); (focus (first | rfl | (go_simp; done))); go_simp; refine hK _ ?_; clear hK K)))
                (refine mix_one (by first | rfl | (go_simp; done)) (fun R hR hX => ?_))
                have hN5 := hNW.below hb45
                have g0 := (hN5.pgs c b hcm hbm).cell (o := p) (by show p < M1.pgs * 1; omega)
                have gf := (hN5.pgs c b hcm hbm).froz
                rw [hL.pb] at g0 gf
                have hput := hN5.putPg1 (p := p) (l := leftOf M1.siz xl) hcm hbm hpm (.inr (leftOf_length _ _)) hv1
                rw [hL.pb, filled_succ] at hput
                have hSg : L.S (L.pb c b) := by have := hN5.Sg (c := c) (b := b) hcm hbm; rw [hL.S, hL.pb] at this; exact this
                have hOP : Only L.S w5 _ := (Only.refl L.S w5).set ⟨L.pb c b, p, none⟩ (.slice a1 n1 k1) (fun _ => hSg)
                have hO5 := (hOW.trans (Only.new hb45 fun _ => False) fun _ _ => False.elim).trans hOP fun _ _ h => h
                have hQ5 := hOP.at (heap_keep hb45 hQW) (fun h => by unfold NdLay.S at h; rw [hqS] at h; cases h)
                have hv5 := (hvW.below hb45).only hOP (fun x _ hx => by rw [← hL.S] at hx; exact hN5.noByte hx)
                have HX := Lib.hid (⟨hput, hO5, hQ5, hv5⟩ : _ ∧ _ ∧ _ ∧ _)
                clear hv1 hput hOP hO5 hQ5 hv5 hb5
                go_wp2_with fail
                ((try simp only [wpList]); refine hR _ _ rfl ⟨fun w' => w' = _, rfl, (fun h => by cases h), ?_⟩; clear hR hX R)
                refine mix_done ?_
                clear hN5 g0 gf hNW hOW hQW hk0' ev0 ev1 ev2 ev3 hvW hb45
                go_wp2_with fail
                obtain ⟨⟨L2, hL2, hN6⟩, hO6, hQ6, hv6⟩ := HX.out
                go_roundw
                case rel => exact ⟨p + 1, by omega, by go_num, L2, hL.trans hL2, hN6, hO6, hQ6, hv6⟩
                case measure => simp [intOf]; omega
              · obtain rfl : p = M1.pgs := by omega
                have hT := hNW.top
                simp only [topCells, Bool.false_eq_true, if_false] at hT
                rw [hL.p] at hT
                have t2 := cells_at hT 2 _ rfl
                have hlp2 := heap_lt hT
                simp only [List.getElem_toArray, List.getElem_cons_succ, List.getElem_cons_zero] at t2
                replace t2 : wr.cell? ⟨L.p, 2, none⟩ = some (.int .i64 (M1.pgs : Int)) := t2
                have hSb : L.S (L.cb c) := by have := hNW.Sb (c := c) hcm; rw [hL.S, hL.cb] at this; exact this
                have hSp : L.S L.p := by have := hNW.Sp; rw [hL.S, hL.p] at this; exact this
                have n1 := (hNW.blk c hcm).cell (o := b * 4 + 1) (show b * 4 + 1 < M1.blk * 4 by omega)
                have n1f := (hNW.blk c hcm).froz (b * 4 + 1)
                rw [blkCells1, hL.cb] at n1
                rw [hL.cb] at n1f
                have hN4 := hNW.setNext (c := c) (b := b) hcm hbm M1.pgs (by omega)
                rw [hL.cb] at hN4
                have hN4' := hN4.congr (show _ = M1.fill c b M1.pgs (leftOf M1.siz xl) from rfl)
                have hO4 := hOW.set ⟨L.cb c, b * 4 + 1, none⟩ (.int .i64 (M1.pgs : Int)) (fun _ => hSb)
                have n3 := (hN4'.blk c hcm).cell (o := b * 4 + 3) (show b * 4 + 3 < M1.blk * 4 by omega)
                have n3f := (hN4'.blk c hcm).froz (b * 4 + 3)
                rw [blkCells3, hL.cb] at n3
                rw [hL.cb] at n3f
                have hT4 := hN4'.top
                rw [hL.p] at hT4
                have t8 := cells_at hT4 8 _ rfl
                have t8f := froz_at hT4 8
                have e1 := cells_at hQW 1 _ rfl
                have hne : qe ≠ L.cb c := fun e => by have h := hSb; rw [← e] at h; unfold NdLay.S at h; rw [hqS] at h; cases h
                have e1' := cells_at (set_other (a := ⟨L.cb c, b * 4 + 1, none⟩) (.int .i64 (M1.pgs : Int)) hQW hne) 1 _ rfl
                by_cases hone : xk = 1
                · try exact absurd hone (by simpa using hk2')
                  all_goals
                    have hd := HRR.out
                    rw [if_pos hone] at hd
                    have hone' : (xk == 1) = true := by simp [hone]
                    have hN5 := hN4'.setBad (c := c) (b := b) hcm hbm true
                    rw [hL.cb] at hN5
                    have HX := Lib.hid (HF2.out _ _ _ hd ⟨⟨L1, FromLay.same hL, hN5⟩, hO4.set ⟨L.cb c, b * 4 + 3, none⟩ (.bool true) (fun _ => hSb)⟩)
                    clear hN4 hN4' hO4 hNW hOW hQW hvW hT hT4 hd hN5 hone hk0 hk1 hk2c hk3 hL q1 hkf t4 hcs
                    go_wp2_with fail
                    exact HX.out
                · try exact absurd (by simpa using hk3') hone
                  all_goals
                    have hd := HRR.out
                    rw [if_neg hone] at hd
                    have hone' : (xk == 1) = false := by simp [hone]
                    have hN5 := hN4'.setOff true
                    rw [hL.p] at hN5
                    have HX := Lib.hid (HF2.out _ _ _ hd ⟨⟨L1, FromLay.same hL, hN5⟩, hO4.set ⟨L.p, 8, none⟩ (.bool true) (fun _ => hSp)⟩)
                    clear hN4 hN4' hO4 hNW hOW hQW hvW hT hT4 hd hN5 hone hk0 hk1 hk2c hk3 hL q1 hkf t4 hcs
                    go_wp2_with fail
                    exact HX.out
      · rw [if_neg hK] at hrd
        have hbd : M1.bad c b = false := by
          cases e : M1.bad c b
          · rfl
          · exact absurd ⟨e, fun h => hK (.inl h)⟩ hA
        rw [hbd] at hk3
        have hk'' : (xk == 2) = false := by simp; omega
        have hkone : (xk == 1) = false := by simp; omega
        have hmk : ∀ w, (Instr.makeSlice 64 (.int .i64 M1.pgs) (.int .i64 M1.pgs)).run Try.prog w = .ok (.slice (some ⟨w.heap.size, 0, none⟩) M1.pgs M1.pgs) (w.alloc (.cells (madeCells #[.slice none 0 0] M1.pgs) 31)) := fun w => by
          have := make_any Try.underlying64 infoBytes M1.pgs (by omega) (by omega) w
          rw [Nat.mul_one] at this; exact this
        have hez := HEZ.out rfl c b
        have hOc : Only (fun x => x = L.cb c) w1 (((w1.setCell ⟨L.cb c, b * 4, none⟩ (.slice (some ⟨w1.heap.size + 1, 0, none⟩) M1.pgs M1.pgs)).alloc (.cells #[.int .i64 xo, .int .i64 xk, .int .i64 xc, .slice va xl.length vc] 103)).alloc (.cells (madeCells #[.slice none 0 0] M1.pgs) 31)) := ((Only.of_set w1 ⟨L.cb c, b * 4, none⟩ _).alloc _).alloc _
        have hs0 : (w1.setCell ⟨L.cb c, b * 4, none⟩ (.slice (some ⟨w1.heap.size + 1, 0, none⟩) M1.pgs M1.pgs)).heap.size = w1.heap.size := size_set _ _ _
        have hal1 := (Below.refl (w1.setCell ⟨L.cb c, b * 4, none⟩ (.slice (some ⟨w1.heap.size + 1, 0, none⟩) M1.pgs M1.pgs)).heap.size (w1.setCell ⟨L.cb c, b * 4, none⟩ (.slice (some ⟨w1.heap.size + 1, 0, none⟩) M1.pgs M1.pgs))).alloc (Nat.le_refl _) (.cells #[.int .i64 xo, .int .i64 xk, .int .i64 xc, .slice va xl.length vc] 103)
        have hal2 := (Below.refl ((w1.setCell ⟨L.cb c, b * 4, none⟩ (.slice (some ⟨w1.heap.size + 1, 0, none⟩) M1.pgs M1.pgs)).alloc (.cells #[.int .i64 xo, .int .i64 xk, .int .i64 xc, .slice va xl.length vc] 103)).heap.size ((w1.setCell ⟨L.cb c, b * 4, none⟩ (.slice (some ⟨w1.heap.size + 1, 0, none⟩) M1.pgs M1.pgs)).alloc (.cells #[.int .i64 xo, .int .i64 xk, .int .i64 xc, .slice va xl.length vc] 103))).alloc (Nat.le_refl _) (.cells (madeCells #[.slice none 0 0] M1.pgs) 31)
        have hnewr : Row (((w1.setCell ⟨L.cb c, b * 4, none⟩ (.slice (some ⟨w1.heap.size + 1, 0, none⟩) M1.pgs M1.pgs)).alloc (.cells #[.int .i64 xo, .int .i64 xk, .int .i64 xc, .slice va xl.length vc] 103)).alloc (.cells (madeCells #[.slice none 0 0] M1.pgs) 31)) (w1.heap.size + 1) M1.pgs fun _ => nilV := (Row.made (z := #[.slice none 0 0]) (by simp only [World.alloc, Array.size_push, hs0]) (by decide) (fun v hv => by simp at hv; subst hv; exact nb_slice _ _ _)).congr fun o ho => by simp [Nat.mod_one, nilV]
        have hblkr : Row (((w1.setCell ⟨L.cb c, b * 4, none⟩ (.slice (some ⟨w1.heap.size + 1, 0, none⟩) M1.pgs M1.pgs)).alloc (.cells #[.int .i64 xo, .int .i64 xk, .int .i64 xc, .slice va xl.length vc] 103)).alloc (.cells (madeCells #[.slice none 0 0] M1.pgs) 31)) (L.cb c) (M1.blk * 4) (fun i => if i = b * 4 then .slice (some ⟨w1.heap.size + 1, 0, none⟩) M1.pgs M1.pgs else blkCells L M1 c i) :=
          ((((hN.blk c hcm).set (o := b * 4) (.slice (some ⟨w1.heap.size + 1, 0, none⟩) M1.pgs M1.pgs) (by omega) (nb_slice _ _ _)).below hal1).below hal2)
        obtain ⟨L', hL, hcb, hS, hN3⟩ := hN.newPg (q := w1.heap.size + 1) hcm hbm (by omega) hOc hnewr hblkr
        have hN4 := hN3.setNext (c := c) (b := b) hcm hbm 0 (by omega)
        have hN5 := hN4.setErases (c := c) (b := b) hcm hbm (M1.erases c b + 1) hez
        rw [hcb, Int.natCast_add] at hN5
        have n1 := (hN3.blk c hcm).cell (o := b * 4 + 1) (show b * 4 + 1 < M1.blk * 4 by omega)
        have n1f := (hN3.blk c hcm).froz (b * 4 + 1)
        have n2 := (hN4.blk c hcm).cell (o := b * 4 + 2) (show b * 4 + 2 < M1.blk * 4 by omega)
        have n2f := (hN4.blk c hcm).froz (b * 4 + 2)
        rw [blkCells1, hcb] at n1
        rw [blkCells2, hcb] at n2
        rw [hcb] at n1f n2f
        simp only at n1 n2
        rw [show ((0 : Nat) : Int) = 0 from rfl] at n2 n2f
        have hSb : L.S (L.cb c) := hN.Sb hcm
        have hO5 : Only L.S w _ := ((hO.trans hOc fun x _ e => by rw [e]; exact hSb).set ⟨L.cb c, b * 4 + 1, none⟩ (.int .i64 0) (fun _ => hSb)).set ⟨L.cb c, b * 4 + 2, none⟩ (.int .i64 ((M1.erases c b : Int) + 1)) (fun _ => hSb)
        have hLw : FromLay w L L' := ⟨hL.1, fun x hx => (hL.2.1 x hx).imp_right fun h => Nat.le_trans hO.size h, fun x hx => (hL.2.2 x hx).imp_right fun h => Nat.le_trans hO.size h⟩
        have hMM : ({ ({ ({ M1 with page := fun x y z => if x = c ∧ y = b ∧ z < M1.pgs then [] else M1.page x y z } : Nd) with next := upd2 M1.next c b 0 } : Nd) with erases := upd2 M1.erases c b (M1.erases c b + 1) } : Nd) = (M1.fill c b 0 []).count c b := rfl
        have HX := Lib.hid (HF2.out _ _ _ hrd ⟨⟨L', hLw, hN5.congr hMM⟩, hO5⟩)
        have hos := hN.ok.ops
        have hop := hN.ok.erases c b
        clear hT hv hN hO hb2 hN2 hO2 hQ hbd hA hK hrd hOc hnewr hblkr hal1 hal2 hN3 hN4 hN5 hO5 hMM hL hLw hS hSb hez
        go_upto_region 20 with (fail)
        clear hmk hk0 hk1 hk2c hk3 hkf
        generalize (((w1.setCell ⟨L.cb c, b * 4, none⟩ (.slice (some ⟨w1.heap.size + 1, 0, none⟩) M1.pgs M1.pgs)).alloc (.cells #[.int .i64 xo, .int .i64 xk, .int .i64 xc, .slice va xl.length vc] 103)).alloc (.cells (madeCells #[.slice none 0 0] M1.pgs) 31)) = w3 at n1 n1f n2 n2f HX ⊢
        go_wp2_with fail
        exact HX.out
  · have hrd := HRD.out
    rw [if_pos hn0] at hrd
    have HX := Lib.hid (HF.out _ _ _ hrd ⟨hN2, hO2⟩)
    clear hrd
    go_wp2_with fail
    exact HX.out
end Go.Proofs.Ytphnjiokihbhnaa
