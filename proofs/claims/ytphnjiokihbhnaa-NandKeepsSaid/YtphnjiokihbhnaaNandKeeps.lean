/- NandKeeps: the walk. -/
--only r2
import Derived.Test.YtphnjiokihbhnaaTwoProg
import Derived.Test.YtphnjiokihbhnaaKeptLaw
import Derived.Test.YtphnjiokihbhnaaOpenOps
import Derived.Test.YtphnjiokihbhnaaTwoMade
namespace Go.Proofs.Ytphnjiokihbhnaa.lawNandKeeps
set_option linter.unusedVariables false
set_option linter.unusedSimpArgs false
open Go.RowKit Go.ChangeShapes Go.WideShapes

set_option maxRecDepth 100000 in
set_option maxHeartbeats 4000000 in
theorem law (chip block : Int) (c : UInt8) (r : Value) (row : List POp) (w : World) (hv : ROps w r row) (hI : ∀ x ∈ row, x.Ok) :
    Calls Try.prog 4 #[.agg #[.int .i64 chip, .int .i64 block, u8v c, r]] w (IsTrue w) := by
  obtain ⟨av, cv, rfl, hlc, hmc, hrow⟩ := id hv
  unfold maxLen at hmc
  obtain ⟨k0, hk03, -, hk0, hshape⟩ := shape_calls 1 w
  have hk3 := hk0 rfl
  subst hk3
  clear hk0 hshape hk03 hrow
  have hfin : ∀ w', Below w.heap.size w w' → IsTrue w (.returned (.bool true)) w' := fun w' h => ⟨rfl, h⟩
  generalize IsTrue w = Post at hfin ⊢
  have HF := Lib.hid hfin
  have HI := Lib.hid hI
  clear hfin hI
  have hal := (Below.refl w.heap.size w).alloc (Nat.le_refl _) (.cells #[.int .i64 chip, .int .i64 block, u8v c, .slice av row.length cv] 38)
  have hQ : (w.alloc (.cells #[.int .i64 chip, .int .i64 block, u8v c, .slice av row.length cv] 38)).heap[w.heap.size]? = some (.cells #[.int .i64 chip, .int .i64 block, u8v c, .slice av row.length cv] 38 (0, 0)) := heap_is rfl
  obtain ⟨q, hq⟩ : ∃ q, q = w.heap.size := ⟨_, rfl⟩
  generalize hw0 : w.alloc (.cells #[.int .i64 chip, .int .i64 block, u8v c, .slice av row.length cv] 38) = w0 at hal hQ
  have HW := Lib.hid hw0
  clear hw0
  by_cases hlen : 80 < row.length
  · go_enter Try.func4, Try.ntmps4
    go_wp2_with fail
    rw [HW.out, ← hq]
    rw [← hq] at hQ
    have s0 := cells_at hQ 0 _ rfl
    have s1 := cells_at hQ 1 _ rfl
    have s2 := cells_at hQ 2 _ rfl
    have s3 := cells_at hQ 3 _ rfl
    have hlq := heap_lt hQ
    clear hq HW hQ
    (refine wp_region_mix [0, 1, 2, 3, 4, 5, 6, 7, 8, 9, 10, 11] [(true, true), (true, false), (true, true), (true, false), (true, true), (true, false), (true, true), (true, false), (true, true), (true, true), (true, true), (true, true)] [0, 1, 0, 4, 0, 16, 0, 64, 3, 271, 831, 2047] _ (by kernel_rfl) (by kernel_rfl) (rfl : _ = _) ?_; simp only [pickL, List.map_cons, List.map_nil, List.getD_cons_succ, List.getD_cons_zero])
    (repeat (first | (refine mix_pure (fun hne K hK => ?_); go_simp; refine hK _ ?_; clear hK K hne) | (refine mix_load ?_ (fun K hK => ?_); (focus (first | rfl | (go_simp; done))); go_simp; refine hK _ ?_; clear hK K) | (refine mix_skip ?_ (fun K hK => ?_); (focus (first | rfl | (go_simp; done))); go_simp; refine hK _ ?_; clear hK K)))
    refine mix_done ?_
    go_wp2_with fail
    refine (begun_calls w0.drew).mono ?_
    rintro e w1 ⟨rfl, hb1⟩
    have hB1 := hal.drew.trans (hb1.mono hal.size)
    clear hal s0 s1 s2 s3 hlq hb1
    go_wp2_with fail
    refine (begun_calls w1).mono ?_
    rintro e w2 ⟨rfl, hb2⟩
    have HX := Lib.hid (HF.out _ (hB1.trans (hb2.mono hB1.size)))
    go_wp2_with fail
    exact HX.out
  · go_enter Try.func4, Try.ntmps4
    go_wp2_with fail
    rw [HW.out, ← hq]
    rw [← hq] at hQ
    have s0 := cells_at hQ 0 _ rfl
    have s1 := cells_at hQ 1 _ rfl
    have s2 := cells_at hQ 2 _ rfl
    have s3 := cells_at hQ 3 _ rfl
    have hlq := heap_lt hQ
    clear hq HW hQ
    (refine wp_region_mix [0, 1, 2, 3, 4, 5, 6, 7, 8, 9, 10, 11] [(true, true), (true, false), (true, true), (true, false), (true, true), (true, false), (true, true), (true, false), (true, true), (true, true), (true, true), (true, true)] [0, 1, 0, 4, 0, 16, 0, 64, 3, 271, 831, 2047] _ (by kernel_rfl) (by kernel_rfl) (rfl : _ = _) ?_; simp only [pickL, List.map_cons, List.map_nil, List.getD_cons_succ, List.getD_cons_zero])
    (repeat (first | (refine mix_pure (fun hne K hK => ?_); go_simp; refine hK _ ?_; clear hK K hne) | (refine mix_load ?_ (fun K hK => ?_); (focus (first | rfl | (go_simp; done))); go_simp; refine hK _ ?_; clear hK K) | (refine mix_skip ?_ (fun K hK => ?_); (focus (first | rfl | (go_simp; done))); go_simp; refine hK _ ?_; clear hK K)))
    refine mix_done ?_
    go_wp2_with fail
    refine (begun_calls w0.drew).mono ?_
    rintro e w1 ⟨rfl, hb1⟩
    have hB1 := hal.drew.trans (hb1.mono hal.size)
    clear hal s0 s1 s2 s3 hlq hb1
    go_wp2_with fail
    obtain ⟨k0, -, -, hk0, hshape⟩ := shape_calls 1 w1
    obtain rfl : k0 = 4 := hk0 rfl
    clear hk0
    refine hshape.mono ?_
    rintro e w2 ⟨rfl, hb2⟩
    have hB2 := hB1.trans (hb2.mono hB1.size)
    clear hshape hB1 hb2
    go_wp2_with fail
    refine (new_plain 4 (.inr rfl) w2).mono ?_
    rintro e w3 ⟨La, rfl, hN, hL, hb3⟩
    have hB3 := hB2.trans (hb3.mono hB2.size)
    have hs23 := hb3.size
    have hs2 := hB2.size
    clear hb3 hB2
    obtain ⟨cn, hcn, hpc⟩ := pick_eq chip 5 (by omega) (by omega)
    obtain ⟨bn, hbn, hpb⟩ := pick_eq block 16 (by omega) (by omega)
    rw [show ((5 : Nat) : Int) = 5 from rfl] at hpc
    rw [show ((16 : Nat) : Int) = 16 from rfl] at hpb
    go_wp2_with fail
    refine (zeros_calls 256 w3 (by omega)).mono ?_
    rintro e w4 ⟨rfl, hw4⟩
    have hb4 : Below w3.heap.size w3 w4 := by rw [hw4]; exact (Below.refl _ _).alloc (Nat.le_refl _) _
    have hd4 : w4.heap[w3.heap.size]? = some (.cells ((List.replicate 256 (0 : UInt8)).map u8v).toArray 5 (0, 0)) := by
      rw [hw4, rep_u8]; exact heap_new _ _
    clear hw4
    obtain ⟨q1, hq1⟩ : ∃ q1, q1 = w3.heap.size := ⟨_, rfl⟩
    rw [← hq1] at hd4 ⊢
    have HQ1 := Lib.hid hq1
    clear hq1
    have hs34 := hb4.size
    go_wp2_with fail
    refine (zeros_calls 64 w4 (by omega)).mono ?_
    rintro e w5 ⟨rfl, hw5⟩
    have hb5 : Below w4.heap.size w4 w5 := by rw [hw5]; exact (Below.refl _ _).alloc (Nat.le_refl _) _
    have ho5 : w5.heap[w4.heap.size]? = some (.cells ((List.replicate 64 (0 : UInt8)).map u8v).toArray 5 (0, 0)) := by
      rw [hw5, rep_u8]; exact heap_new _ _
    clear hw5
    have hq1l := heap_lt hd4
    obtain ⟨q2, hq2⟩ : ∃ q2, q2 = w4.heap.size := ⟨_, rfl⟩
    rw [← hq2] at ho5 hq1l ⊢
    have hd5 := heap_keep hb5 hd4
    have hb35 := hb4.trans (hb5.mono hs34)
    have hs45 := hb5.size
    clear hb4 hb5 hd4
    have e9 : w5.cell? ⟨q1, 9, none⟩ = some (.int .u8 0) := cells_at hd5 9 _ (by simp)
    have e3 : w5.cell? ⟨q2, 3, none⟩ = some (.int .u8 0) := cells_at ho5 3 _ (by simp)
    have f9 := froz_at hd5 9
    have f3 := froz_at ho5 3
    have hl1 := heap_lt hd5
    have hl2 := heap_lt ho5
    have hd6 : ((w5.setCell ⟨q1, 9, none⟩ (u8v c)).setCell ⟨q2, 3, none⟩ (u8v c)).heap[q1]? = some (.cells (((List.replicate 256 (0 : UInt8)).set 9 c).map u8v).toArray 5 (0, 0)) := by
      have := set_other (a := ⟨q2, 3, none⟩) (u8v c) (set_at (o := 9) hd5 (u8v c)) (by show q1 ≠ q2; omega)
      rw [this, List.map_set, List.setIfInBounds_toArray]
    have ho6 : ((w5.setCell ⟨q1, 9, none⟩ (u8v c)).setCell ⟨q2, 3, none⟩ (u8v c)).heap[q2]? = some (.cells (((List.replicate 64 (0 : UInt8)).set 3 c).map u8v).toArray 5 (0, 0)) := by
      have := set_at (o := 3) (set_other (a := ⟨q1, 9, none⟩) (u8v c) ho5 (by show q2 ≠ q1; omega)) (u8v c)
      rw [this, List.map_set, List.setIfInBounds_toArray]
    have hb36 : Below w3.heap.size w3 ((w5.setCell ⟨q1, 9, none⟩ (u8v c)).setCell ⟨q2, 3, none⟩ (u8v c)) := (hb35.setCell (by rw [← HQ1.out]; exact Nat.le_refl _) (u8v c)).setCell (by rw [← HQ1.out]; exact Nat.le_of_lt hq1l) (u8v c)
    have hN6 := hN.below hb36
    have hB6 := hB3.trans (hb36.mono hB3.size)
    have hlo : ∀ x, La.tag x ≠ .none → x < q1 := fun x hx => by have := hN.lt x hx; rw [HQ1.out]; exact this
    obtain ⟨d, hdd⟩ : ∃ d, d = (List.replicate 256 (0 : UInt8)).set 9 c := ⟨_, rfl⟩
    obtain ⟨o, hoo⟩ : ∃ o, o = (List.replicate 64 (0 : UInt8)).set 3 c := ⟨_, rfl⟩
    have hdl : d.length = 256 := by rw [hdd]; simp
    have hol : o.length = 64 := by rw [hoo]; simp
    have hD6 : RB ((w5.setCell ⟨q1, 9, none⟩ (u8v c)).setCell ⟨q2, 3, none⟩ (u8v c)) (.slice (some ⟨q1, 0, none⟩) 256 256) d := by rw [hdd]; exact RB.block hd6 (by simp) (Nat.le_refl _) (by unfold maxLen; omega)
    have hE6 : RB ((w5.setCell ⟨q1, 9, none⟩ (u8v c)).setCell ⟨q2, 3, none⟩ (u8v c)) (.slice (some ⟨q2, 0, none⟩) 64 64) o := by rw [hoo]; exact RB.block ho6 (by simp) (Nat.le_refl _) (by unfold maxLen; omega)
    have HDL := Lib.hid hdl
    have HOL := Lib.hid hol
    have hs6 := Nat.le_trans hs23 hb36.size
    have H6 := Lib.hid (⟨hN6, hB6, hD6, hE6, hlo, hL, hs6⟩ : _ ∧ _ ∧ _ ∧ _ ∧ _ ∧ _ ∧ _)
    clear hN6 hB6 hD6 hE6 hlo hL hs6 hd6 ho6 hb36 hb35 hN hB3 hdd hoo hdl hol hq1l hq2 hs34 hs45 HQ1 hd5 ho5
    go_wp2_with fail
    generalize (w5.setCell ⟨q1, 9, none⟩ (u8v c)).setCell ⟨q2, 3, none⟩ (u8v c) = w6 at H6 ⊢
    obtain ⟨hN6, hB6, hD6, hE6, hlo, hL, hs6⟩ := H6.out
    have hin : (Nd.fresh 4 16 4 256 (fun _ _ => false) []).inside cn bn := by unfold Nd.inside Nd.fresh; simp only; omega
    have hp : (Nd.fresh 4 16 4 256 (fun _ _ => false) []).program cn bn 0 d o = ({ Nd.fresh 4 16 4 256 (fun _ _ => false) [] with ops := 1 }.lay cn bn 0 (d ++ o), 0) := by
      rw [prog_quiet rfl rfl hin rfl rfl, if_neg (by simp [Nd.pageIn, Nd.fresh, HDL.out, HOL.out]), if_neg (by simp [Nd.fresh])]; rfl
    have hc1 := nprog_calls hN6 cn bn 0 _ _ d o ⟨by omega, by omega⟩ ⟨by omega, by omega⟩ (by decide) hD6 hE6 (by rw [HDL.out]; omega) (by rw [HOL.out]; omega) (by show 0 < 1000000; omega)
    rw [hp] at hc1
    have hk : Kept ({ Nd.fresh 4 16 4 256 (fun _ _ => false) [] with ops := 1 }.lay cn bn 0 (d ++ o)) cn bn (d ++ o) 1 :=
      ⟨rfl, rfl, rfl, rfl, rfl, rfl, rfl, upd3_same _ _ _ _ _, Nat.le_refl _⟩
    generalize ({ Nd.fresh 4 16 4 256 (fun _ _ => false) [] with ops := 1 }.lay cn bn 0 (d ++ o)) = A1 at hc1 hk
    refine hc1.mono ?_
    rintro e w7 ⟨L7, hL7, rfl, hN7, hO7⟩
    have hD7 := hD6.only hO7 (fun x _ hx => hN6.noByte hx)
    have hE7 := hE6.only hO7 (fun x _ hx => hN6.noByte hx)
    have hB7 := hB6.trans (hO7.below hB6.size fun x hx h => by have := hL x (NdLay.S_ne h); omega)
    have hL' : ∀ x, L7.tag x ≠ .none → w2.heap.size ≤ x := fun x hx => hL x (by rw [← hL7.tag]; exact hx)
    have h7p := hL7.p
    have hs7 := Nat.le_trans hs6 hO7.size
    have HA := Lib.hid (⟨hN7, hD7, hE7, hB7, hL', hk, h7p, hs7⟩ : _ ∧ _ ∧ _ ∧ _ ∧ _ ∧ _ ∧ _ ∧ _)
    clear hN6 hB6 hD6 hE6 hlo hL hs6 hN7 hD7 hE7 hB7 hL' hk h7p hs7 hc1 hO7 hp hL7 H6
    go_wp2_with fail
    have hg : geoOk 4 16 4 256 := by unfold geoOk; omega
    have hrn := rnew_calls 4 16 4 256 (.slice none 0 0) [] none 0 [] w7 (RPair.nil w7) (by simp) ⟨Nat.le_refl _, by simp [maxLen], fun _ => rfl, .inl rfl⟩ hg (by simp) (fun x hx => by cases hx) (fun x hx => by cases hx)
    refine hrn.mono ?_
    rintro e w8 ⟨Lm, rfl, hM, hLm, hb8⟩
    obtain ⟨hN7, hD7, hE7, hB7, hL', hk, h7p, hs7⟩ := HA.out
    obtain ⟨Lm', hmp, hT⟩ := two_made (z := w.heap.size) hN7 hL' hM hLm hb8 (fun x h => absurd rfl h) hs2 hs7
    have hD8 := hD7.below hb8
    have hE8 := hE7.below hb8
    have hB8 := hB7.trans (hb8.mono hB7.size)
    have hL0 : ∃ La' Lm'' A B, La'.p = La.p ∧ Lm''.p = Lm.p ∧ Two w.heap.size w8 La' Lm'' A B ∧ Kept A cn bn (d ++ o) (0 + 1) ∧ B.ops ≤ 0 ∧ RB w8 (.slice (some ⟨q1, 0, none⟩) 256 256) d ∧ RB w8 (.slice (some ⟨q2, 0, none⟩) 64 64) o ∧ Below w.heap.size w w8 :=
      ⟨L7, Lm', _, _, h7p, hmp, hT, hk, Nat.le_refl _, hD8, hE8, hB8⟩
    clear hT hk hD8 hE8 hB8 hmp hM hLm hb8 hN7 hD7 hE7 hB7 hL' h7p hs7 hs2 hs23 hin HA hrn hg e9 e3 f9 f3 hl1 hl2 hpc hpb
    generalize La.p = pa at hL0 ⊢
    generalize Lm.p = pm at hL0 ⊢
    go_wp2_with fail
    go_loopw [12] (fun i wr => ∃ k : Nat, k ≤ row.length ∧ i = .int .i64 k ∧ ∃ La' Lm'' A B, La'.p = pa ∧ Lm''.p = pm ∧ Two w.heap.size wr La' Lm'' A B ∧ Kept A cn bn (d ++ o) (k + 1) ∧ B.ops ≤ k ∧ RB wr (.slice (some ⟨q1, 0, none⟩) 256 256) d ∧ RB wr (.slice (some ⟨q2, 0, none⟩) 64 64) o ∧ Below w.heap.size w wr) (fun i _ => row.length - (intOf i).toNat)
    case atStart => exact ⟨0, Nat.zero_le _, rfl, hL0⟩
    case round =>
      clear hL0
      obtain ⟨k, hk, rfl, La', Lm', A, B, rfl, rfl, hT, hK, hBo, hD, hE, hbel⟩ := hrel
      by_cases hlt : k < row.length
      · obtain ⟨a2, cap2, e2, -, -, hx⟩ := hv.below hbel
        obtain ⟨bb, bo, rfl, hy⟩ := hx.resolve_left (fun e => by rw [e] at hlt; simp at hlt)
        simp only [Value.slice.injEq] at e2
        obtain ⟨rfl, -, rfl⟩ := e2
        obtain ⟨y0, y1, y2, y3, y4, y5⟩ := hy k hlt
        have hbb := cell_lt y0
        have hok := HI.out _ (List.getElem_mem hlt)
        generalize row[k] = x at y0 y1 y2 y3 y4 y5 hok
        have hnext : k + 1 ≤ row.length := hlt
        have hAo : A.ops < 1000000 := by have := hK.ops; omega
        have hBo' : B.ops < 1000000 := by omega
        have hdone := done_calls hT x hok hAo hBo'
        have hstay : ¬ (x.chip ≠ cn ∨ x.block ≠ bn) ∨ ¬ (x.kind ≠ 5 ∨ x.chip ≠ cn) → Kept A cn bn (d ++ o) (k + 1 + 1) := fun _ => ⟨hK.evs, hK.off, hK.mem, hK.blk, hK.pgs, hK.siz, hK.gone, hK.page, Nat.le_succ_of_le hK.ops⟩
        have hgo : (x.chip ≠ cn ∨ x.block ≠ bn) → (x.kind ≠ 5 ∨ x.chip ≠ cn) → Kept (A.done x) cn bn (d ++ o) (k + 1 + 1) := fun h1 h2 => hK.done x (by omega) (by omega)
        have HH := Lib.hid (⟨hstay, hgo, hdone, hT, hD, hE, hbel, hBo, hnext⟩ : _ ∧ _ ∧ _ ∧ _ ∧ _ ∧ _ ∧ _ ∧ _ ∧ _)
        have hlt' : (k : Int) < (row.length : Int) := by omega
        clear hstay hgo hdone hT hD hE hbel hBo hK hAo hBo' hok hy hx hnext
        obtain ⟨xk, xc, xb, xp, xd, xs⟩ := x
        simp only at y0 y1 y2 y3 y4 y5
        by_cases h1 : xc = (cn : Int)
        · subst h1
          by_cases h2 : xb = (bn : Int)
          · subst h2
            have HST := Lib.hid (show ¬ ((cn : Int) ≠ cn ∨ (bn : Int) ≠ bn) ∨ ¬ (xk ≠ 5 ∨ (cn : Int) ≠ cn) from .inl (by omega))
            go_wp2_with fail
            obtain ⟨hstay, -, -, hT, hD, hE, hbel, hBo, hnext⟩ := HH.out
            have hK2 := hstay HST.out
            go_roundw
            case rel => exact ⟨k + 1, hnext, by go_num, La', Lm', A, B, rfl, rfl, hT, hK2, by omega, hD, hE, hbel⟩
            case measure => simp [intOf]; omega
          · by_cases h3 : xk = 5
            · subst h3
              have HST := Lib.hid (show ¬ ((cn : Int) ≠ cn ∨ xb ≠ bn) ∨ ¬ ((5 : Int) ≠ 5 ∨ (cn : Int) ≠ cn) from .inr (by omega))
              go_wp2_with fail
              obtain ⟨hstay, -, -, hT, hD, hE, hbel, hBo, hnext⟩ := HH.out
              have hK2 := hstay HST.out
              go_roundw
              case rel => exact ⟨k + 1, hnext, by go_num, La', Lm', A, B, rfl, rfl, hT, hK2, by omega, hD, hE, hbel⟩
              case measure => simp [intOf]; omega
            · have HST := Lib.hid (show ((cn : Int) ≠ cn ∨ xb ≠ bn) ∧ (xk ≠ 5 ∨ (cn : Int) ≠ cn) from ⟨.inr h2, .inl h3⟩)
              go_wp2_with fail
              refine HH.out.2.2.1.mono ?_
              rintro e w9 ⟨r9, La2, Lm2, rfl, -, hpa, hpm, hT2, hO2⟩
              obtain ⟨-, hgo, -, hT, hD, hE, hbel, hBo, hnext⟩ := HH.out
              have hK2 := hgo HST.out.1 HST.out.2
              have hD2 := hD.only hO2 (fun y _ hy => hT.nb hy)
              have hE2 := hE.only hO2 (fun y _ hy => hT.nb hy)
              have hbel2 := hbel.trans (hO2.below hbel.size (fun y hy h => by have := hT.lo y h; omega))
              have hB2 : (B.done ⟨xk, cn, xb, xp, xd, xs⟩).ops ≤ k + 1 := Nat.le_trans (done_count _ _) (by omega)
              have HX := Lib.hid (⟨hpa, hpm, hT2, hK2, hB2, hD2, hE2, hbel2⟩ : _ ∧ _ ∧ _ ∧ _ ∧ _ ∧ _ ∧ _ ∧ _)
              have HN := Lib.hid hnext
              clear hpa hpm hT2 hK2 hB2 hD2 hE2 hbel2 hO2 hgo hT hD hE hbel hBo hnext HH
              go_wp2_with fail
              go_roundw
              case rel => exact ⟨k + 1, HN.out, by go_num, La2, Lm2, _, _, HX.out⟩
              case measure => have := HN.out; simp [intOf]; omega
        · have HST := Lib.hid (show (xc ≠ cn ∨ xb ≠ bn) ∧ (xk ≠ 5 ∨ xc ≠ cn) from ⟨.inl h1, .inr h1⟩)
          by_cases h3 : xk = 5
          rotate_left
          · go_wp2_with fail
            refine HH.out.2.2.1.mono ?_
            rintro e w9 ⟨r9, La2, Lm2, rfl, -, hpa, hpm, hT2, hO2⟩
            obtain ⟨-, hgo, -, hT, hD, hE, hbel, hBo, hnext⟩ := HH.out
            have hK2 := hgo HST.out.1 HST.out.2
            have hD2 := hD.only hO2 (fun y _ hy => hT.nb hy)
            have hE2 := hE.only hO2 (fun y _ hy => hT.nb hy)
            have hbel2 := hbel.trans (hO2.below hbel.size (fun y hy h => by have := hT.lo y h; omega))
            have hB2 : (B.done ⟨xk, xc, xb, xp, xd, xs⟩).ops ≤ k + 1 := Nat.le_trans (done_count _ _) (by omega)
            have HX := Lib.hid (⟨hpa, hpm, hT2, hK2, hB2, hD2, hE2, hbel2⟩ : _ ∧ _ ∧ _ ∧ _ ∧ _ ∧ _ ∧ _ ∧ _)
            have HN := Lib.hid hnext
            clear hpa hpm hT2 hK2 hB2 hD2 hE2 hbel2 hO2 hgo hT hD hE hbel hBo hnext HH
            go_wp2_with fail
            go_roundw
            case rel => exact ⟨k + 1, HN.out, by go_num, La2, Lm2, _, _, HX.out⟩
            case measure => have := HN.out; simp [intOf]; omega
          · subst h3
            go_wp2_with fail
            refine HH.out.2.2.1.mono ?_
            rintro e w9 ⟨r9, La2, Lm2, rfl, -, hpa, hpm, hT2, hO2⟩
            obtain ⟨-, hgo, -, hT, hD, hE, hbel, hBo, hnext⟩ := HH.out
            have hK2 := hgo HST.out.1 HST.out.2
            have hD2 := hD.only hO2 (fun y _ hy => hT.nb hy)
            have hE2 := hE.only hO2 (fun y _ hy => hT.nb hy)
            have hbel2 := hbel.trans (hO2.below hbel.size (fun y hy h => by have := hT.lo y h; omega))
            have hB2 : (B.done ⟨5, xc, xb, xp, xd, xs⟩).ops ≤ k + 1 := Nat.le_trans (done_count _ _) (by omega)
            have HX := Lib.hid (⟨hpa, hpm, hT2, hK2, hB2, hD2, hE2, hbel2⟩ : _ ∧ _ ∧ _ ∧ _ ∧ _ ∧ _ ∧ _ ∧ _)
            have HN := Lib.hid hnext
            clear hpa hpm hT2 hK2 hB2 hD2 hE2 hbel2 hO2 hgo hT hD hE hbel hBo hnext HH
            go_wp2_with fail
            go_roundw
            case rel => exact ⟨k + 1, HN.out, by go_num, La2, Lm2, _, _, HX.out⟩
            case measure => have := HN.out; simp [intOf]; omega
      · obtain rfl : k = row.length := by omega
        have hAo : A.ops < 1000000 := by have := hK.ops; omega
        have hin : A.inside cn bn := by have := hK.mem; have := hK.blk; unfold Nd.inside; omega
        have hrd : A.read cn bn 0 = ({ A with ops := A.ops + 1 }, d ++ o, 0) := by
          rw [read_quiet hK.evs hK.off hin hK.gone, if_neg (by have := hK.pgs; unfold Nd.pageIn; (try simp only []); omega)]
          have e2 : A.page (cn : Int).toNat (bn : Int).toNat (0 : Int).toNat = d ++ o := hK.page
          rw [e2, if_neg (by rw [List.length_append, HDL.out, HOL.out]; omega)]
        have hsz := hK.siz
        have hc3 := nread_calls hT.a cn bn 0 ⟨by omega, by omega⟩ ⟨by omega, by omega⟩ (by decide) hAo
        unfold ReadEnds at hc3
        simp only [hrd] at hc3
        rw [hsz] at hc3
        have HH := Lib.hid (⟨hc3, hT, hD, hE, hbel⟩ : _ ∧ _ ∧ _ ∧ _ ∧ _)
        clear hc3 hT hD hE hbel hrd hK hin hAo hBo hsz
        go_wp2_with fail
        refine HH.out.1.mono ?_
        rintro e w9 ⟨v1, v2, rfl, hv1, hv2, -, hO9⟩
        obtain ⟨-, hT, hD, hE, hbel⟩ := HH.out
        have hD9 := hD.only hO9 (fun y _ hy => hT.a.noByte hy)
        have hE9 := hE.only hO9 (fun y _ hy => hT.a.noByte hy)
        have hbel9 := hbel.trans (hO9.below hbel.size (fun y hy h => by have := hT.lo y (.inl h); omega))
        rw [List.take_append_of_le_length (by rw [HDL.out]; omega), List.take_of_length_le (by rw [HDL.out]; omega)] at hv1
        rw [List.drop_append_of_le_length (by rw [HDL.out]; omega), List.drop_of_length_le (by rw [HDL.out]; omega), List.nil_append] at hv2
        obtain ⟨a1, k1, rfl, -, -⟩ := hv1.form
        obtain ⟨a2, k2, rfl, -, -⟩ := hv2.form
        have hs1 := rsame_calls _ _ d d w9 hv1 hD9
        have hs2 := rsame_calls _ _ o o w9 hv2 hE9
        rw [decide_eq_true rfl] at hs1 hs2
        have HS := Lib.hid (⟨hs1, hs2⟩ : _ ∧ _)
        have HX := Lib.hid (HF.out _ hbel9)
        clear hs1 hs2 hD9 hE9 hv1 hv2 hbel9 hO9 hT hD hE hbel HH
        go_wp2_with fail
        refine HS.out.1.mono ?_
        rintro e w8 ⟨rfl, rfl⟩
        go_wp2_with fail
        refine HS.out.2.mono ?_
        rintro e w8 ⟨rfl, rfl⟩
        go_wp2_with fail
        exact HX.out

set_option maxRecDepth 100000 in
theorem walk {H : Type} (enc : TypeId × Value → H) (W : World) (base : Nat) (v0 : Value) (d0 : DataW H) (p0 : List MemPlace)
    (hv0 : Value.okWide Try.prog W .any base 38 v0) (h0 : DataW.Trod enc Try.prog W 0 (fun _ => true) true 38 v0 d0 p0)
    (_hsz : (DataW.weightsEach Try.prog [38] [d0]).all (· ≤ reachBytes) = true) :
    Calls Try.prog 4 #[v0] W fun e W' => e = .returned (.bool true) ∧ Below W.heap.size W W' := by
  obtain ⟨chip, block, c, r, xs, rfl, h1, h2⟩ := open_keeps h0 hv0
  exact law chip block c r xs W h1 h2
end Go.Proofs.Ytphnjiokihbhnaa.lawNandKeeps
