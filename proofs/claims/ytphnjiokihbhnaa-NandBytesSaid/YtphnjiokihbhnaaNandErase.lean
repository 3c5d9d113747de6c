/- nand: a block is erased. -/
--only r2
import Derived.Test.YtphnjiokihbhnaaNandProg
import Derived.Laws.IdiomCopy
namespace Go.Proofs.Ytphnjiokihbhnaa
set_option linter.unusedVariables false
set_option linter.unusedSimpArgs false
open Go.RowKit

theorem only_setCells (b : Nat) : ∀ (vs : List Value) (o : Nat) (w : World), Only (fun x => x = b) w (w.setCells b o vs)
  | [], _, w => Only.refl _ _
  | v :: r, o, w => (Only.of_set w ⟨b, o, none⟩ v).trans (only_setCells b r (o + 1) _) fun _ _ h => h
theorem Row.setCells {b n : Nat} : ∀ (vs : List Value) (o : Nat) (w : World) (f : Nat → Value), Row w b n f → (∀ v ∈ vs, NB v) → o + vs.length ≤ n → ∃ g, Row (w.setCells b o vs) b n g ∧ (∀ i, i < o → g i = f i) ∧ ∀ i (h : i < vs.length), g (o + i) = vs[i]
  | [], o, w, f, h, _, _ => ⟨f, h, fun _ _ => rfl, fun i hi => by simp at hi⟩
  | v :: r, o, w, f, h, hn, hl => by
    simp only [List.length_cons] at hl
    obtain ⟨g, h1, h2, h3⟩ := Row.setCells r (o + 1) _ _ (h.set (o := o) v (by omega) (hn v List.mem_cons_self)) (fun x hx => hn x (List.mem_cons_of_mem _ hx)) (by omega)
    refine ⟨g, h1, fun i hi => ?_, fun i hi => ?_⟩
    · rw [h2 i (by omega), if_neg (by omega)]
    · cases i with
      | zero => rw [Nat.add_zero, h2 o (by omega), if_pos rfl]; rfl
      | succ i =>
        have := h3 i (by simpa using hi)
        rw [show o + (i + 1) = o + 1 + i by omega, this]; rfl

/-- all pages of a block are written -/
theorem NdAt.setRow {pr : Bool} {w w' : World} {L : NdLay} {M : Nd} (h : NdAt pr w L M) {c b : Nat} (hc : c ≤ M.mem) (hb : b < M.blk) {f : Nat → Value} (l : List UInt8) (hl : l = [] ∨ l.length = M.siz + 64) (hO : Only (fun x => x = L.pb c b) w w')
    (hrow : Row w' (L.pb c b) (M.pgs * kk pr) f) (hpg : ∀ p, p < M.pgs → Pg pr w' f M.siz p l) :
    ∃ L', SameLay L L' ∧ NdAt pr w' L' { M with page := fun x y z => if x = c ∧ y = b ∧ z < M.pgs then l else M.page x y z } := by
  obtain ⟨hr, hpg', he, hlt⟩ := h.others (h.Sg hc hb) hO
  refine ⟨{ L with pv := fun x y => if x = c ∧ y = b then f else L.pv x y }, ⟨rfl, rfl, rfl, rfl, rfl⟩, h.ok.setPage _ fun x y z => ?_, hO.at h.top (h.ne_tag h.tp (h.tg c b hc hb) (by simp)), h.chips.only hO (h.ne_tag h.tc (h.tg c b hc hb) (by simp)), hr _ _ _ h.dead (h.ne_tag h.td (h.tg c b hc hb) (by simp)),
    fun c' hc' => hr _ _ _ (h.blk c' hc') (h.ne_tag (h.tb c' hc') (h.tg c b hc hb) (by simp)), fun c' b' hc' hb' => ?_, fun c' b' p' hc' hb' hp' => ?_, he, h.caps, h.tp, h.td, h.tc, h.tb, h.tg, h.only, hlt⟩
  · split; exact hl; exact h.ok.page x y z
  · by_cases e : c' = c ∧ b' = b
    · obtain ⟨rfl, rfl⟩ := e
      simp only [and_self, if_true]; exact hrow
    · simp only [if_neg e]
      exact hr _ _ _ (h.pgs c' b' hc' hb') (h.ne_tag (h.tg c' b' hc' hb') (h.tg c b hc hb) (by simpa using e))
  · by_cases e : c' = c ∧ b' = b
    · obtain ⟨rfl, rfl⟩ := e
      have hp'' : p' < M.pgs := hp'
      simp only [and_self, if_true, true_and, if_pos hp'']
      exact hpg p' hp''
    · have e' : ¬ (c' = c ∧ b' = b ∧ p' < M.pgs) := fun h => e ⟨h.1, h.2.1⟩
      simp only [if_neg e, if_neg e']
      exact hpg' c' b' p' hc' hb' hp'

theorem zero_page (w : World) : (zeroValue 96).run Try.prog w = .ok (.agg #[nilV, nilV]) w := by kernel_rfl
theorem nilV_one : nilV.oneCell' = true := rfl
/-- clear(k.pages) -/
theorem run_clear_pages (w : World) (ty : TypeId) (b n c : Nat) (hn : 0 < n) (hc : ∀ j, j < n * 2 → (w.cell? ⟨b, j, none⟩).isSome = true) (hf : ∀ j, w.frozen? ⟨b, j, none⟩ = false) :
    (Builtin.clear_ #[87] ty #[.slice (some ⟨b, 0, none⟩) n c]).run Try.prog w = .ok (.tuple #[]) (w.setCells b 0 (List.replicate (n * 2) nilV)) := by
  have hzc : (Builtin.zeroCells (Value.agg #[nilV, nilV]).cells n).toList = List.replicate (n * 2) nilV := by
    simp only [Builtin.zeroCells, Value.cells]
    apply List.ext_getElem
    · simp
    · intro i h1 h2
      simp
      have : i % 2 = 0 ∨ i % 2 = 1 := by omega
      rcases this with e | e <;> simp [e]
  have hst := run_storeCells_cells (P := Try.prog) b 0 (List.replicate (n * 2) nilV) 0 w (fun j hj => by have := hc j (by simpa using hj); simpa using this) (fun j _ => by simpa using hf j) (by intro v hv'; rw [List.eq_of_mem_replicate hv']; rfl)
  simp only [Nat.add_zero] at hst
  obtain ⟨m, rfl⟩ : ∃ m, n = m + 1 := ⟨n - 1, by omega⟩
  have hzc' : (Builtin.zeroCells (Value.agg #[.slice none 0 0, .slice none 0 0]).cells (m + 1)).toList = List.replicate ((m + 1) * 2) nilV := hzc
  have hz' := zero_page
  unfold nilV at hz'
  simp only [Builtin.clear_]
  simp [run_underlying Try.underlying87, hz', hzc', hst]

/-- behind clear(k.pages) -/
theorem NdAt.clearPg {w : World} {L : NdLay} {M : Nd} (h : NdAt true w L M) {c b : Nat} (hc : c ≤ M.mem) (hb : b < M.blk) :
    ∃ L', SameLay L L' ∧ NdAt true (w.setCells (L.pb c b) 0 (List.replicate (M.pgs * 2) nilV)) L' { M with page := fun x y z => if x = c ∧ y = b ∧ z < M.pgs then [] else M.page x y z } := by
  obtain ⟨g, h1, _, h3⟩ := Row.setCells (List.replicate (M.pgs * 2) nilV) 0 w _ (h.pgs c b hc hb) (fun v hv => by rw [List.eq_of_mem_replicate hv]; exact nb_slice _ _ _) (by simp [kk])
  refine h.setRow hc hb [] (.inl rfl) (only_setCells _ _ _ _) h1 fun p hp => .inl ⟨rfl, ?_, ?_⟩
  · have := h3 (p * 2) (by simp; omega)
    rw [Nat.zero_add] at this; rw [this]; simp
  · have := h3 (p * 2 + 1) (by simp; omega)
    rw [Nat.zero_add] at this; rw [this]; simp

theorem begin_ops (M : Nd) (c b : Int) (h : (M.begin c b).2.2 = 0) : (M.begin c b).1.ops = M.ops + 1 := by
  unfold Nd.begin at h ⊢
  split at h
  · simp at h
  · rename_i ho
    split at h
    · simp at h
    · rename_i hi
      simp only at h
      rw [if_neg ho, if_neg hi]
      simp only []
      split at h
      · split at h <;> simp at h
      · rename_i hg
        rw [if_neg hg]
        unfold Nd.die
        split <;> rfl
theorem NdAt.congr {pr : Bool} {w : World} {L : NdLay} {M M' : Nd} (h : NdAt pr w L M) (e : M = M') : NdAt pr w L M' := e ▸ h
def Nd.filled (M : Nd) (c b k : Nat) (l : List UInt8) : Nd := { M with page := fun x y z => if x = c ∧ y = b ∧ z < k then l else M.page x y z }
theorem filled_zero (M : Nd) (c b : Nat) (l : List UInt8) : M.filled c b 0 l = M := by
  have : (fun x y z => if x = c ∧ y = b ∧ z < 0 then l else M.page x y z) = M.page := by
    funext x y z; rw [if_neg (by omega)]
  unfold Nd.filled; rw [this]
theorem filled_succ (M : Nd) (c b k : Nat) (l : List UInt8) : { M.filled c b k l with page := upd3 (M.filled c b k l).page c b k l } = M.filled c b (k + 1) l := by
  have : upd3 (M.filled c b k l).page c b k l = (M.filled c b (k + 1) l).page := by
    funext x y z
    unfold upd3 Nd.filled
    simp only []
    by_cases e : x = c ∧ y = b ∧ z = k
    · rw [if_pos e, if_pos ⟨e.1, e.2.1, by omega⟩]
    · rw [if_neg e]
      by_cases f : x = c ∧ y = b ∧ z < k
      · rw [if_pos f, if_pos ⟨f.1, f.2.1, by omega⟩]
      · rw [if_neg f, if_neg (by omega)]
  rw [this]; rfl

set_option maxRecDepth 100000 in
set_option maxHeartbeats 6000000 in
theorem nerase_calls {w : World} {L : NdLay} {M : Nd} (h : NdAt true w L M) (c b : Int) (hc : I64 c) (hb : I64 b) (hops : M.ops < 1000000) :
    Calls Try.prog 13 #[ptrV L.p, .int .i64 c, .int .i64 b] w (ProgEnds w L (M.erase c b)) := by
  have hB := begin_calls h c b hc hb hops
  have hxl := begin_left h.ok c b
  have hopz := begin_ops M c b
  have her0 := h.ok.erases
  obtain ⟨s1, s2, s3, s4, s5, s6, s7, s8, s9⟩ := begin_shape M c b
  have hz := begin_zero M c b
  have hrd : M.erase c b = (if (M.begin c b).2.2 ≠ 0 then ((M.begin c b).1, (M.begin c b).2.2) else if (M.begin c b).1.bad c.toNat b.toNat = true ∧ (M.begin c b).2.1.kind ≠ 2 then ((M.begin c b).1, 70)
    else if (M.begin c b).2.1.kind = 2 ∨ (M.begin c b).2.1.kind = 1 then
      (if (M.begin c b).2.1.kind = 1 then ((if (M.begin c b).1.bad c.toNat b.toNat then (M.begin c b).1 else (M.begin c b).1.fill c.toNat b.toNat (M.begin c b).1.pgs (leftOf (M.begin c b).1.siz (M.begin c b).2.1.left)).spoil c.toNat b.toNat, 70) else ({ (if (M.begin c b).1.bad c.toNat b.toNat then (M.begin c b).1 else (M.begin c b).1.fill c.toNat b.toNat (M.begin c b).1.pgs (leftOf (M.begin c b).1.siz (M.begin c b).2.1.left)) with off := true }, 72))
    else (((M.begin c b).1.fill c.toNat b.toNat 0 []).count c.toNat b.toNat, 0)) := rfl
  have HRD := Lib.hid hrd
  clear hrd
  generalize hRR : M.erase c b = RR at HRD ⊢
  clear hRR
  generalize hPost : ProgEnds w L RR = Post
  have HPOST := Lib.hid hPost
  clear hPost
  unfold BeginEnds at hB
  generalize M.begin c b = R at hB s1 s2 s3 s4 s5 s6 s7 s8 s9 hz HRD hxl hopz
  obtain ⟨M1, x, n⟩ := R
  simp only at hB s1 s2 s3 s4 s5 s6 s7 s8 s9 hz HRD hxl hopz
  obtain ⟨xo, xk, xc, xl⟩ := x
  simp only [evV] at hB
  simp only at HRD hxl
  have HXL := Lib.hid hxl
  have hez : n = 0 → ∀ c b, M1.erases c b + 1 ≤ 4294967295 + M1.ops := fun e c b => by
    rw [hopz e, s7]; have := her0 c b; omega
  have HEZ := Lib.hid hez
  clear hxl hez hopz her0
  have S1 := Lib.hid (⟨s1, s2, s3, s4, s5, s6, s7, s8, s9⟩ : _ ∧ _ ∧ _ ∧ _ ∧ _ ∧ _ ∧ _ ∧ _ ∧ _)
  have HZ := Lib.hid hz
  clear s1 s2 s3 s4 s5 s6 s7 s8 s9 hz h
  have HB := Lib.hid hB
  clear hB
  go_enter Try.func13, Try.ntmps13
  go_wp2_with fail
  refine HB.out.mono ?_
  rintro e w1 ⟨v, rfl, hv, hN, hO⟩
  obtain ⟨va, vc, rfl, -, -⟩ := hv.form
  clear HB
  have hT := hN.top
  have hsz := hN.ok.siz
  have hpg := hN.ok.pgs
  simp only [topCells, if_true] at hT
  have hlp := heap_lt hT
  obtain ⟨q, hq⟩ : ∃ q, q = w1.heap.size := ⟨_, rfl⟩
  have hb2 := (Below.refl w1.heap.size w1).alloc (Nat.le_refl _) (.cells #[.int .i64 xo, .int .i64 xk, .int .i64 xc, .slice va xl.length vc] 92)
  have hQ : (w1.alloc (.cells #[.int .i64 xo, .int .i64 xk, .int .i64 xc, .slice va xl.length vc] 92)).heap[q]? = some (.cells #[.int .i64 xo, .int .i64 xk, .int .i64 xc, .slice va xl.length vc] 92 (0, 0)) := heap_is hq
  have hN2 := hN.below hb2
  have hO2 := hO.trans (Only.new hb2 fun _ => False) fun _ _ => False.elim
  clear hq
  have hfin : ∀ w' (M' : Nd) (k : Nat), RR = (M', k) → NdAt true w' L M' ∧ Only L.S w w' → Post (.returned (.int .i64 k)) w' := fun w' M' k e ⟨h1, h2⟩ => by
    rw [← HPOST.out, e]
    exact ⟨L, SameLay.refl L, rfl, h1, h2⟩
  have hfin2 : ∀ w' (M' : Nd) (k : Nat), RR = (M', k) → (∃ L', SameLay L L' ∧ NdAt true w' L' M') ∧ Only L.S w w' → Post (.returned (.int .i64 k)) w' := fun w' M' k e ⟨⟨L', h0, h1⟩, h2⟩ => by
    rw [← HPOST.out, e]
    exact ⟨L', h0, rfl, h1, h2⟩
  have HF := Lib.hid hfin
  have HF2 := Lib.hid hfin2
  clear hfin hfin2
  by_cases hn0 : n = 0
  · obtain ⟨⟨i1, i2, i3, i4⟩, -, -⟩ := HZ.out hn0
    obtain ⟨c, rfl⟩ : ∃ k : Nat, c = k := ⟨c.toNat, by omega⟩
    obtain ⟨b, rfl⟩ : ∃ k : Nat, b = k := ⟨b.toNat, by omega⟩
    subst hn0
    have hrd := HRD.out
    rw [if_neg (by simp)] at hrd
    simp only [Int.toNat_natCast] at hrd
    clear HRD
    have s := S1.out
    have hcm : c ≤ M1.mem := by rw [s.1]; omega
    have hbm : b < M1.blk := by rw [s.2.1]; omega
    clear s S1
    have hlb : L.cb c < w1.heap.size := (hN.blk c hcm).lt
    have hlg : L.pb c b < w1.heap.size := (hN.pgs c b hcm hbm).lt
    have hlq := heap_lt hQ
    have q1 := cells_at hQ 1 _ rfl
    have hbp : blkPtr L 0 (c : Int) (b : Int) = .pointer (some ⟨L.cb c, b * 4, none⟩) := rfl
    rw [hbp]
    clear hbp
    have hblk := hN.blk c hcm
    have hk0 := hblk.cell (o := b * 4) (by omega)
    have hk1 := hblk.cell (o := b * 4 + 1) (by omega)
    have hk2c := hblk.cell (o := b * 4 + 2) (by omega)
    have hk3 := hblk.cell (o := b * 4 + 3) (by omega)
    rw [blkCells0] at hk0
    rw [blkCells1] at hk1
    rw [blkCells2] at hk2c
    rw [blkCells3] at hk3
    have hkf := hblk.froz
    clear hblk
    by_cases hA : M1.bad c b = true ∧ xk ≠ 2
    · rw [if_pos hA] at hrd
      obtain ⟨hbd, hk⟩ := hA
      have HX := Lib.hid (HF.out _ _ _ hrd ⟨hN2, hO2⟩)
      rw [hbd] at hk3
      have hk' : (xk != 2) = true := by rw [bne_iff_ne]; exact hk
      clear hk hT hv hN hO hb2 hrd hN2 hO2 hQ hbd
      go_wp2_with fail
      exact HX.out
    · rw [if_neg hA] at hrd
      by_cases hK : xk = 2 ∨ xk = 1
      · rw [if_pos hK] at hrd
        by_cases hbd : M1.bad c b = true
        · have hk : xk = 2 := by
            by_cases e : xk = 2
            · exact e
            · exact absurd ⟨hbd, e⟩ hA
          rw [if_neg (by omega), if_pos hbd] at hrd
          have hN3 := (hN.setOff true).below ((Below.refl _ _).alloc (Nat.le_refl _) (.cells #[.int .i64 xo, .int .i64 xk, .int .i64 xc, .slice va xl.length vc] 92))
          have hO3 := (hO.set ⟨L.p, 8, none⟩ (.bool true) (fun _ => hN.Sp)).alloc (.cells #[.int .i64 xo, .int .i64 xk, .int .i64 xc, .slice va xl.length vc] 92)
          have HX := Lib.hid (HF.out _ _ _ hrd ⟨hN3, hO3⟩)
          have t8 := cells_at hT 8 _ rfl
          have t8f := froz_at hT 8
          rw [hbd] at hk3
          have hk' : (xk != 2) = false := by simp [hk]
          have hk'' : (xk == 2) = true := by simp [hk]
          have hkone : (xk == 1) = false := by simp [hk]
          clear hk hT hv hN hO hb2 hrd hN2 hO2 hQ hbd hN3 hO3 hA hK
          go_wp2_with fail
          exact HX.out
        · have hbd' : M1.bad c b = false := by simpa using hbd
          rw [if_neg hbd] at hrd
          rw [hbd'] at hk3
          obtain ⟨qe, hqe⟩ : ∃ qe, qe = w1.heap.size := ⟨_, rfl⟩
          have hQ3 : (w1.alloc (.cells #[.int .i64 xo, .int .i64 xk, .int .i64 xc, .slice va xl.length vc] 92)).heap[qe]? = some (.cells #[.int .i64 xo, .int .i64 xk, .int .i64 xc, .slice va xl.length vc] 92 (0, 0)) := heap_is hqe
          have hv3 := hv.below hb2
          have hqS : L.tag qe = .none := hN.fresh (by omega)
          have HX := Lib.hid (⟨hN2, hO2, hQ3, hv3⟩ : _ ∧ _ ∧ _ ∧ _)
          have HRR := Lib.hid hrd
          have hk'' : (xk == 2) = true ∨ ((xk == 2) = false ∧ (xk == 1) = true) := by
            by_cases e : xk = 2
            · left; simp [e]
            · right; refine ⟨by simp [e], ?_⟩
              have : xk = 1 := hK.resolve_left e
              simp [this]
          clear hT hv hN hO hb2 hN2 hO2 hQ hbd hbd' hQ3 hv3 hrd hA
          have hgo : Code.wp Try.prog = Code.wp Try.prog := rfl
          rcases hk'' with hk2 | ⟨hk2, hk3'⟩
          all_goals
            clear hgo hK
            go_wp2_with fail
            rw [← hqe]
            clear hqe
            obtain ⟨hNW, hOW, hQW, hvW⟩ := HX.out
            clear HX
            generalize hWW : (w1.alloc (.cells #[.int .i64 xo, .int .i64 xk, .int .i64 xc, .slice va xl.length vc] 92)) = w3 at hNW hOW hQW hvW ⊢
            clear hWW
            go_loopw [52] (fun i wr => ∃ k : Nat, k ≤ M1.pgs ∧ i = .int .i64 k ∧ ∃ L', SameLay L L' ∧ NdAt true wr L' (M1.filled c b k (leftOf M1.siz xl)) ∧ Only L.S w wr ∧ wr.heap[qe]? = some (.cells #[.int .i64 xo, .int .i64 xk, .int .i64 xc, .slice va xl.length vc] 92 (0, 0)) ∧ RB wr (.slice va xl.length vc) xl) (fun i _ => M1.pgs - (intOf i).toNat)
            case atStart => exact ⟨0, Nat.zero_le _, rfl, L, SameLay.refl L, by rw [filled_zero]; exact hNW, hOW, hQW, hvW⟩
            case round =>
              clear hNW hOW hQW hvW
              obtain ⟨p, hpk, rfl, L1, hL, hNW, hOW, hQW, hvW⟩ := hrel
              by_cases hpm : p < M1.pgs
              · have hpm' : (p : Int) < M1.pgs := by omega
                have hk0' : ∀ w', Below wr.heap.size wr w' → w'.cell? ⟨L.cb c, b * 4, none⟩ = some (.slice (some ⟨L.pb c b, 0, none⟩) M1.pgs (L.pc c b)) := fun w' hb => by
                  have := (hNW.below hb).blk c hcm |>.cell (o := b * 4) (by show b * 4 < M1.blk * 4; omega)
                  rw [blkCells0, hL.cb, hL.pb, hL.pc] at this; exact this
                have ev0 : ∀ w', Below wr.heap.size wr w' → w'.cell? ⟨qe, 0, none⟩ = some (.int .i64 xo) := fun w' hb => cells_at (heap_keep hb hQW) 0 _ rfl
                have ev1 : ∀ w', Below wr.heap.size wr w' → w'.cell? ⟨qe, 1, none⟩ = some (.int .i64 xk) := fun w' hb => cells_at (heap_keep hb hQW) 1 _ rfl
                have ev2 : ∀ w', Below wr.heap.size wr w' → w'.cell? ⟨qe, 2, none⟩ = some (.int .i64 xc) := fun w' hb => cells_at (heap_keep hb hQW) 2 _ rfl
                have ev3 : ∀ w', Below wr.heap.size wr w' → w'.cell? ⟨qe, 3, none⟩ = some (.slice va xl.length vc) := fun w' hb => cells_at (heap_keep hb hQW) 3 _ rfl
                have hlc := left_calls hNW.drew ⟨xo, xk, xc, xl⟩ (.slice va xl.length vc) hvW HXL.out
                rw [hL.p] at hlc
                have HLC := Lib.hid hlc
                clear hlc hk0 hk1 hk2c hk3 q1
                go_wp2_with fail
                (refine wp_region_mix [0, 1, 2, 3, 4, 5, 6, 7, 8, 9] [(true, true), (true, true), (true, true), (true, false), (true, true), (true, true), (true, false), (false, true), (true, true), (false, false)] [0, 1, 3, 7, 0, 0, 0, 96, 255, 511] (fun w' => Below wr.heap.size wr w') (by kernel_rfl) (by kernel_rfl) ?_ ?_; rotate_left; simp only [pickL, List.map_cons, List.map_nil, List.getD_cons_succ, List.getD_cons_zero])
                rotate_left
                focus exact (Below.refl _ _).drew
                (repeat (first | (refine mix_pure (fun hne K hK => ?_); go_simp; refine hK _ ?_; clear hK K hne) | (refine mix_load ?_ (fun K hK => ?_); (focus (first | rfl | (go_simp; done))); apply Exists.intro; apply And.intro; (focus (intro w' hC; go_simp; exact rfl)); go_simp; refine hK _ ?_; clear hK K) | (refine mix_skip ?_ (fun K hK => ?_); (focus (first | rfl | (go_simp; done))); go_simp; refine hK _ ?_; clear hK K)))
                (refine mix_one (by first | rfl | (go_simp; done)) (fun R hR hX => ?_))
                go_wp2_with fail
                refine HLC.out.mono ?_
                rintro e w5 ⟨v1, v2, rfl, hv1, hv2, hb5⟩
                have hs1 : ∃ a n k, v1 = .slice a n k := by obtain ⟨a, k, e, -, -⟩ := hv1.form; exact ⟨_, _, _, e⟩
                obtain ⟨a1, n1, k1, rfl⟩ := hs1
                have hs2 : ∃ a n k, v2 = .slice a n k := by obtain ⟨a, k, e, -, -⟩ := hv2.form; exact ⟨_, _, _, e⟩
                obtain ⟨a2, n2, k2, rfl⟩ := hs2
                have hb45 : Below wr.heap.size wr w5 := (Below.refl wr.heap.size wr).drew.trans hb5
                clear HLC
                go_wp2_with fail
                refine hR _ _ rfl ⟨_, hb45, fun _ => rfl, ?_⟩
                clear hR hX R
                (repeat (first | (refine mix_pure (fun hne K hK => ?_); go_simp; refine hK _ ?_; clear hK K hne) | (refine mix_load ?_ (fun K hK => ?_); (focus (first | rfl | (go_simp; done))); apply Exists.intro; apply And.intro; (focus (intro w' hC; go_simp; exact rfl)); go_simp; refine hK _ ?_; clear hK K) | (refine mix_skip ?_ (fun K hK => ?_); (focus (first | rfl | (go_simp; done))); go_simp; refine hK _ ?_; clear hK K)))
                (refine mix_one (by first | rfl | (go_simp; done)) (fun R hR hX => ?_))
                have hN5 := hNW.below hb45
                have g0 := (hN5.pgs c b hcm hbm).cell (o := p * 2) (by show p * 2 < M1.pgs * 2; omega)
                have g1 := (hN5.pgs c b hcm hbm).cell (o := p * 2 + 1) (by show p * 2 + 1 < M1.pgs * 2; omega)
                have gf := (hN5.pgs c b hcm hbm).froz
                rw [hL.pb] at g0 g1 gf
                have hput := hN5.putPg (p := p) (l := leftOf M1.siz xl) hcm hbm hpm (leftOf_length _ _) hv1 hv2
                rw [hL.pb, filled_succ] at hput
                have hSg : L.S (L.pb c b) := by have := hN5.Sg (c := c) (b := b) hcm hbm; rw [hL.S, hL.pb] at this; exact this
                have hOP : Only L.S w5 _ := ((Only.refl L.S w5).set ⟨L.pb c b, p * 2, none⟩ (.slice a1 n1 k1) (fun _ => hSg)).set ⟨L.pb c b, p * 2 + 1, none⟩ (.slice a2 n2 k2) (fun _ => hSg)
                have hO5 := (hOW.trans (Only.new hb45 fun _ => False) fun _ _ => False.elim).trans hOP fun _ _ h => h
                have hQ5 := hOP.at (heap_keep hb45 hQW) (fun h => by unfold NdLay.S at h; rw [hqS] at h; cases h)
                have hv5 := (hvW.below hb45).only hOP (fun x _ hx => by rw [← hL.S] at hx; exact hN5.noByte hx)
                have HX := Lib.hid (⟨hput, hO5, hQ5, hv5⟩ : _ ∧ _ ∧ _ ∧ _)
                clear hv1 hv2 hput hOP hO5 hQ5 hv5 hb5
                go_wp2_with fail
                ((try simp only [wpList]); refine hR _ _ rfl ⟨fun w' => w' = _, rfl, (fun h => by cases h), ?_⟩; clear hR hX R)
                refine mix_done ?_
                clear hN5 g0 g1 gf hNW hOW hQW hk0' ev0 ev1 ev2 ev3 hvW hb45
                go_wp2_with fail
                obtain ⟨⟨L2, hL2, hcb2, hN6⟩, hO6, hQ6, hv6⟩ := HX.out
                go_roundw
                case rel => exact ⟨p + 1, by omega, by go_num, L2, hL.trans hL2, hN6, hO6, hQ6, hv6⟩
                case measure => simp [intOf]; omega
              · obtain rfl : p = M1.pgs := by omega
                have hT := hNW.top
                simp only [topCells, if_true] at hT
                rw [hL.p] at hT
                have t2 := cells_at hT 2 _ rfl
                have hlp2 := heap_lt hT
                simp only [List.getElem_toArray, List.getElem_cons_succ, List.getElem_cons_zero] at t2
                replace t2 : wr.cell? ⟨L.p, 2, none⟩ = some (.int .i64 (M1.pgs : Int)) := t2
                have hSb : L.S (L.cb c) := by have := hNW.Sb (c := c) hcm; rw [hL.S, hL.cb] at this; exact this
                have hSp : L.S L.p := by have := hNW.Sp; rw [hL.S, hL.p] at this; exact this
                have n1 := (hNW.blk c hcm).cell (o := b * 4 + 1) (show b * 4 + 1 < M1.blk * 4 by omega)
                have n1f := (hNW.blk c hcm).froz (b * 4 + 1)
                rw [blkCells1, hL.cb] at n1
                rw [hL.cb] at n1f
                have hN4 := hNW.setNext (c := c) (b := b) hcm hbm M1.pgs (by omega)
                rw [hL.cb] at hN4
                have hN4' := hN4.congr (show _ = M1.fill c b M1.pgs (leftOf M1.siz xl) from rfl)
                have hO4 := hOW.set ⟨L.cb c, b * 4 + 1, none⟩ (.int .i64 (M1.pgs : Int)) (fun _ => hSb)
                have n3 := (hN4'.blk c hcm).cell (o := b * 4 + 3) (show b * 4 + 3 < M1.blk * 4 by omega)
                have n3f := (hN4'.blk c hcm).froz (b * 4 + 3)
                rw [blkCells3, hL.cb] at n3
                rw [hL.cb] at n3f
                have hT4 := hN4'.top
                rw [hL.p] at hT4
                have t8 := cells_at hT4 8 _ rfl
                have t8f := froz_at hT4 8
                have e1 := cells_at hQW 1 _ rfl
                have hne : qe ≠ L.cb c := fun e => by have h := hSb; rw [← e] at h; unfold NdLay.S at h; rw [hqS] at h; cases h
                have e1' := cells_at (set_other (a := ⟨L.cb c, b * 4 + 1, none⟩) (.int .i64 (M1.pgs : Int)) hQW hne) 1 _ rfl
                by_cases hone : xk = 1
                · have hd := HRR.out
                  rw [if_pos hone] at hd
                  have hone' : (xk == 1) = true := by simp [hone]
                  have hN5 := hN4'.setBad (c := c) (b := b) hcm hbm true
                  rw [hL.cb] at hN5
                  have HX := Lib.hid (HF2.out _ _ _ hd ⟨⟨L1, hL, hN5⟩, hO4.set ⟨L.cb c, b * 4 + 3, none⟩ (.bool true) (fun _ => hSb)⟩)
                  clear hN4 hN4' hO4 hNW hOW hQW hvW hT hT4 hd hN5 hone hk0 hk1 hk2c hk3 hL q1
                  go_wp2_with fail
                  exact HX.out
                · try exact absurd (by simpa using hk3') hone
                  all_goals
                    have hd := HRR.out
                    rw [if_neg hone] at hd
                    have hone' : (xk == 1) = false := by simp [hone]
                    have hN5 := hN4'.setOff true
                    rw [hL.p] at hN5
                    have HX := Lib.hid (HF2.out _ _ _ hd ⟨⟨L1, hL, hN5⟩, hO4.set ⟨L.p, 8, none⟩ (.bool true) (fun _ => hSp)⟩)
                    clear hN4 hN4' hO4 hNW hOW hQW hvW hT hT4 hd hN5 hone hk0 hk1 hk2c hk3 hL q1
                    go_wp2_with fail
                    exact HX.out
      · rw [if_neg hK] at hrd
        have hbd : M1.bad c b = false := by
          cases e : M1.bad c b
          · rfl
          · exact absurd ⟨e, fun h => hK (.inl h)⟩ hA
        rw [hbd] at hk3
        have hk'' : (xk == 2) = false := by simp; omega
        have hkone : (xk == 1) = false := by simp; omega
        have hkn : M1.pgs = (M1.pgs - 1) + 1 := by omega
        have hpos : 0 < M1.pgs := by omega
        obtain ⟨L', hL, hN3⟩ := hN2.clearPg hcm hbm
        have hclr : ∀ ty, (Builtin.clear_ #[87] ty #[.slice (some ⟨L.pb c b, 0, none⟩) M1.pgs (L.pc c b)]).run Try.prog (w1.alloc (.cells #[.int .i64 xo, .int .i64 xk, .int .i64 xc, .slice va xl.length vc] 92)) = .ok (.tuple #[]) ((w1.alloc (.cells #[.int .i64 xo, .int .i64 xk, .int .i64 xc, .slice va xl.length vc] 92)).setCells (L.pb c b) 0 (List.replicate (M1.pgs * 2) nilV)) := fun ty =>
          run_clear_pages _ ty _ _ _ hpos (fun j hj => by rw [(hN2.pgs c b hcm hbm).cell (o := j) hj]; rfl) (hN2.pgs c b hcm hbm).froz
        have hO3 := hO2.trans (only_setCells (L.pb c b) (List.replicate (M1.pgs * 2) nilV) 0 (w1.alloc (.cells #[.int .i64 xo, .int .i64 xk, .int .i64 xc, .slice va xl.length vc] 92))) fun x _ e => by rw [e]; exact hN2.Sg hcm hbm
        have hS : L'.S = L.S := hL.S
        have hN4 := hN3.setNext (c := c) (b := b) hcm hbm 0 (by omega)
        have hez := HEZ.out rfl c b
        have hN5 := hN4.setErases (c := c) (b := b) hcm hbm (M1.erases c b + 1) hez
        rw [hL.cb, Int.natCast_add] at hN5
        have n1 := (hN3.blk c hcm).cell (o := b * 4 + 1) (show b * 4 + 1 < M1.blk * 4 by omega)
        have n1f := (hN3.blk c hcm).froz (b * 4 + 1)
        have n2 := (hN4.blk c hcm).cell (o := b * 4 + 2) (show b * 4 + 2 < M1.blk * 4 by omega)
        have n2f := (hN4.blk c hcm).froz (b * 4 + 2)
        rw [blkCells1, hL.cb] at n1
        rw [blkCells2, hL.cb] at n2
        rw [hL.cb] at n1f n2f
        simp only at n1 n2
        rw [show ((0 : Nat) : Int) = 0 from rfl] at n2 n2f
        have hO5 := (hO3.set ⟨L.cb c, b * 4 + 1, none⟩ (.int .i64 0) (fun _ => hN2.Sb hcm)).set ⟨L.cb c, b * 4 + 2, none⟩ (.int .i64 ((M1.erases c b : Int) + 1)) (fun _ => hN2.Sb hcm)
        have hMM : ({ ({ ({ M1 with page := fun x y z => if x = c ∧ y = b ∧ z < M1.pgs then [] else M1.page x y z } : Nd) with next := upd2 M1.next c b 0 } : Nd) with erases := upd2 M1.erases c b (M1.erases c b + 1) } : Nd) = (M1.fill c b 0 []).count c b := rfl
        have HX := Lib.hid (HF2.out _ _ _ hrd ⟨⟨L', hL, hN5.congr hMM⟩, hO5⟩)
        have hrun := hclr
        have hop := (hN.ok).erases c b
        have hos := hN.ok.ops
        clear hT hv hN hO hb2 hN2 hO2 hQ hbd hN3 hO3 hA hK hN4 hN5 hO5 hMM hS hL hrd hclr hkn hez
        go_wp2_with fail
        exact HX.out
  · have hrd := HRD.out
    rw [if_pos hn0] at hrd
    have HX := Lib.hid (HF.out _ _ _ hrd ⟨hN2, hO2⟩)
    have hbp : blkPtr L n c b = .pointer none := if_neg hn0
    rw [hbp]
    clear hrd hbp
    go_wp2_with fail
    exact HX.out
end Go.Proofs.Ytphnjiokihbhnaa
