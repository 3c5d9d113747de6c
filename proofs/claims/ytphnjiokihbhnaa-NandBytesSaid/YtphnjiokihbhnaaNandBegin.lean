/- nand: an operation begins. -/
--only r2
import Derived.Test.YtphnjiokihbhnaaNandAt
import Derived.Deep.DeepCutAuto
namespace Go.Proofs.Ytphnjiokihbhnaa
set_option linter.unusedVariables false
set_option linter.unusedSimpArgs false
open Go.RowKit

section
variable {P : Program} {fn : Func} {p u x : Tmp} {ty : TypeId} {tmps : Array Value} {w : World} {g : Nat} {t : TypeId} {cs : Array Value} {fr : Nat × Nat} {d : TypeDesc}
theorem res_tct (h : fn.results = #[.tmp x, .cell p ty, .tmp u]) (hp : tmps.getD p undef = .pointer (some ⟨g, 0, none⟩)) (hg : w.heap[g]? = some (.cells cs t fr))
    (hu : P.underlying ty = some d) (hd : (match d with | .struct _ | .array _ _ => true | _ => false) = true) (hi : (P.info? ty).map (·.size) = some cs.size) :
    (results fn tmps).run P w = .ok (.tuple #[tmps.getD x undef, .agg cs, tmps.getD u undef]) w := by
  have hp' : tmps[p]?.getD undef = .pointer (some ⟨g, 0, none⟩) := by simpa using hp
  simp [results, h, hp', asAddr, run_loadVar_row w g t ty cs fr d hg hu hd hi]
end
def evZ : Value := .agg #[.int .i64 0, .int .i64 0, .int .i64 0, .slice none 0 0]
/-- the block that an operation is about -/
def blkPtr (L : NdLay) (e : Nat) (c b : Int) : Value := if e = 0 then .pointer (some ⟨L.cb c.toNat, b.toNat * 4, none⟩) else .pointer none

/-- what 'begin' is to end in -/
def BeginEnds (w : World) (L : NdLay) (M : Nd) (c b : Int) (e : Ending) (w' : World) : Prop :=
  ∃ v, e = .returned (.tuple #[blkPtr L (M.begin c b).2.2 c b, evV (M.begin c b).2.1 v, .int .i64 (M.begin c b).2.2]) ∧ RB w' v (M.begin c b).2.1.left ∧ NdAt true w' L (M.begin c b).1 ∧ Only L.S w w'
theorem begin_is {w w' : World} {L : NdLay} {M M1 : Nd} {c b : Int} {x : Ev} {n : Nat} {v : Value} (h : M.begin c b = (M1, x, n)) (hv : RB w' v x.left) (hN : NdAt true w' L M1) (hO : Only L.S w w') :
    BeginEnds w L M c b (.returned (.tuple #[blkPtr L n c b, evV x v, .int .i64 n])) w' := by
  refine ⟨v, ?_, ?_, ?_, hO⟩ <;> rw [h]
  · exact hv
  · exact hN
/-- a result box behind which chips lie -/
theorem NdAt.box {w : World} {L : NdLay} {M : Nd} (h : NdAt true w L M) {r : Nat} {t : TypeId} {cs : Array Value} {fz : Nat × Nat} (hr : w.heap[r]? = some (.cells cs t fz)) (hn : NoByte w r) (hL : L.tag r = .none) (u0 u1 u2 u3 : Value) :
    NdAt true ((((w.setCell ⟨r, 0, none⟩ u0).setCell ⟨r, 1, none⟩ u1).setCell ⟨r, 2, none⟩ u2).setCell ⟨r, 3, none⟩ u3) L M :=
  h.frame (only4 w r u0 u1 u2 u3) (fun b _ e => by rw [e]; exact hL) (fun b _ e => by rw [e]; exact hn)
theorem NdAt.fresh {pr : Bool} {w : World} {L : NdLay} {M : Nd} (h : NdAt pr w L M) {r : Nat} (hr : w.heap.size ≤ r) : L.tag r = .none := by
  cases e : L.tag r with
  | none => rfl
  | _ => have := h.lt r (by rw [e]; simp); omega
theorem noByte4 {w : World} {r : Nat} {t : TypeId} {fz : Nat × Nat} (h : w.heap[r]? = some (.cells #[.int .i64 0, .int .i64 0, .int .i64 0, .slice none 0 0] t fz)) : NoByte w r :=
  noByte_of h fun o c h => by have : u8v c ∈ (#[.int .i64 0, .int .i64 0, .int .i64 0, .slice none 0 0] : Array Value) := Array.mem_of_getElem? h; simp [u8v] at this

theorem NdAt.drew {pr : Bool} {w : World} {L : NdLay} {M : Nd} (h : NdAt pr w L M) : NdAt pr w.drew L M := h.below (Below.refl w.heap.size w).drew
theorem begin_end {w wc : World} {L : NdLay} {M M1 : Nd} {c b : Int} {x : Ev} {n : Nat} {v : Value} {r : Nat} (hN : NdAt true wc L M1) (hL : L.tag r = .none) (hr : wc.heap[r]? = some (.cells #[.int .i64 0, .int .i64 0, .int .i64 0, .slice none 0 0] 92 (0, 0)))
    (hO : Only L.S w wc) (hw : w.heap.size ≤ r) (hv : RB wc v x.left) (h : M.begin c b = (M1, x, n)) {Post : Ending → World → Prop} (hP : BeginEnds w L M c b = Post) :
    Post (.returned (.tuple #[blkPtr L n c b, evV x v, .int .i64 n])) ((((wc.setCell ⟨r, 0, none⟩ (.int .i64 x.op)).setCell ⟨r, 1, none⟩ (.int .i64 x.kind)).setCell ⟨r, 2, none⟩ (.int .i64 x.chip)).setCell ⟨r, 3, none⟩ v) := by
  rw [← hP]
  refine begin_is h (hv.only (only4 wc r _ _ _ _) fun b _ e => by rw [e]; exact noByte4 hr) (hN.box hr (noByte4 hr) hL _ _ _ _) (hO.trans (only4 wc r _ _ _ _) fun b hb e => by omega)

theorem begin_end_drew {w wc : World} {L : NdLay} {M M1 : Nd} {c b : Int} {x : Ev} {n : Nat} {v : Value} {r : Nat} (hN : NdAt true wc L M1) (hL : L.tag r = .none) (hr : wc.heap[r]? = some (.cells #[.int .i64 0, .int .i64 0, .int .i64 0, .slice none 0 0] 92 (0, 0)))
    (hO : Only L.S w wc) (hw : w.heap.size ≤ r) (hv : RB wc v x.left) (h : M.begin c b = (M1, x, n)) {Post : Ending → World → Prop} (hP : BeginEnds w L M c b = Post) :
    Post (.returned (.tuple #[blkPtr L n c b, evV x v, .int .i64 n])) ((((wc.setCell ⟨r, 0, none⟩ (.int .i64 x.op)).setCell ⟨r, 1, none⟩ (.int .i64 x.kind)).setCell ⟨r, 2, none⟩ (.int .i64 x.chip)).setCell ⟨r, 3, none⟩ v).drew := by
  rw [← hP]
  refine begin_is h (hv.only (only4 wc r _ _ _ _).drew fun b _ e => by rw [e]; exact noByte4 hr) (hN.box hr (noByte4 hr) hL _ _ _ _).drew (hO.trans (only4 wc r _ _ _ _).drew fun b hb e => by omega)
theorem heap_drew {w : World} {b : Nat} {o : Option Obj} (h : w.heap[b]? = o) : w.drew.heap[b]? = o := h

set_option maxRecDepth 100000 in
set_option maxHeartbeats 1000000 in
theorem begin_out {w : World} {L : NdLay} {M : Nd} (h : NdAt true w L M) (c b : Int) (hc : I64 c) (hb : I64 b) (hno : M.off = true ∨ ¬ M.inside c b) :
    Calls Try.prog 34 #[ptrV L.p, .int .i64 c, .int .i64 b] w (BeginEnds w L M c b) := by
  have hT := h.top
  simp only [topCells, if_true] at hT
  have hm := h.ok.mem
  have hk := h.ok.blk
  (have hT_0 := cells_at hT 0 _ rfl; have hT_1 := cells_at hT 1 _ rfl; have hT_2 := cells_at hT 2 _ rfl; have hT_3 := cells_at hT 3 _ rfl; have hT_4 := cells_at hT 4 _ rfl; have hT_5 := cells_at hT 5 _ rfl; have hT_6 := cells_at hT 6 _ rfl; have hT_7 := cells_at hT 7 _ rfl; have hT_8 := cells_at hT 8 _ rfl)
  have hlt := heap_lt hT
  have hR : (w.alloc (.cells #[.int .i64 0, .int .i64 0, .int .i64 0, .slice none 0 0] 92)).heap[w.heap.size]? = some (.cells #[.int .i64 0, .int .i64 0, .int .i64 0, .slice none 0 0] 92 (0, 0)) := heap_is rfl
  have hN := h.below (((Below.refl w.heap.size w).alloc (Nat.le_refl _) (.cells #[.int .i64 0, .int .i64 0, .int .i64 0, .slice none 0 0] 92)))
  have hO := Only.of_alloc L.S w (.cells #[.int .i64 0, .int .i64 0, .int .i64 0, .slice none 0 0] 92)
  have hfin : ∀ n : Nat, M.begin c b = (M, .zero, n) → 0 < n → BeginEnds w L M c b (.returned (.tuple #[.pointer none, evZ, .int .i64 n])) (w.alloc (.cells #[.int .i64 0, .int .i64 0, .int .i64 0, .slice none 0 0] 92)) := fun n hn h0 => by
    have := begin_is (v := .slice none 0 0) hn (RB.nil _) hN hO
    rw [blkPtr, if_neg (by omega)] at this; exact this
  have HF := Lib.hid hfin
  clear hfin
  by_cases hoff : M.off = true
  · have he : M.begin c b = (M, .zero, 72) := by unfold Nd.begin; rw [if_pos hoff]
    have HE := Lib.hid he
    have HO := Lib.hid hoff
    rw [hoff] at hT_8
    clear he hno hoff
    go_enter Try.func34, Try.ntmps34
    go_wp2_with fail
    exact bodyPost_ret (res_tct rfl rfl hR Try.underlying92 rfl (by kernel_rfl)) rfl (HF.out 72 HE.out (by omega))
  · have hin : ¬ M.inside c b := hno.resolve_left hoff
    have hoff' : M.off = false := by simpa using hoff
    have he : M.begin c b = (M, .zero, 34) := by unfold Nd.begin; rw [if_neg hoff, if_pos hin]
    have HE := Lib.hid he
    rw [hoff'] at hT_8
    have HR := Lib.hid hR
    clear he hno hoff hoff' hR hN hO
    by_cases h1 : c < 0
    · clear hin
      go_enter Try.func34, Try.ntmps34
      go_wp2_with fail
      exact bodyPost_ret (res_tct rfl rfl HR.out Try.underlying92 rfl (by kernel_rfl)) rfl (HF.out 34 HE.out (by omega))
    · by_cases h2 : (M.mem : Int) < c
      · have h2' : (M.mem : Int) + 1 ≤ c := by omega
        clear hin
        go_enter Try.func34, Try.ntmps34
        go_wp2_with fail
        exact bodyPost_ret (res_tct rfl rfl HR.out Try.underlying92 rfl (by kernel_rfl)) rfl (HF.out 34 HE.out (by omega))
      · have h2' : ¬ (M.mem : Int) + 1 ≤ c := by omega
        by_cases h3 : b < 0
        · clear hin
          go_enter Try.func34, Try.ntmps34
          go_wp2_with fail
          exact bodyPost_ret (res_tct rfl rfl HR.out Try.underlying92 rfl (by kernel_rfl)) rfl (HF.out 34 HE.out (by omega))
        · have h4 : (M.blk : Int) ≤ b := by unfold Nd.inside at hin; omega
          clear hin
          go_enter Try.func34, Try.ntmps34
          go_wp2_with fail
          exact bodyPost_ret (res_tct rfl rfl HR.out Try.underlying92 rfl (by kernel_rfl)) rfl (HF.out 34 HE.out (by omega))

set_option maxRecDepth 100000 in
set_option maxHeartbeats 1000000 in
theorem begin_in {w : World} {L : NdLay} {M : Nd} (h : NdAt true w L M) (c b : Nat) (hc : c ≤ M.mem) (hb : b < M.blk) (hoff : M.off = false) (hops : M.ops < 1000000) :
    Calls Try.prog 34 #[ptrV L.p, .int .i64 c, .int .i64 b] w (BeginEnds w L M c b) := by
  have hT := h.top
  simp only [topCells, if_true] at hT
  have hm := h.ok.mem
  have hk := h.ok.blk
  have hTf := froz_at hT 7
  (have hT_0 := cells_at hT 0 _ rfl; have hT_1 := cells_at hT 1 _ rfl; have hT_2 := cells_at hT 2 _ rfl; have hT_3 := cells_at hT 3 _ rfl; have hT_4 := cells_at hT 4 _ rfl; have hT_5 := cells_at hT 5 _ rfl; have hT_6 := cells_at hT 6 _ rfl; have hT_7 := cells_at hT 7 _ rfl; have hT_8 := cells_at hT 8 _ rfl)
  have hlt := heap_lt hT
  have hR : (w.alloc (.cells #[.int .i64 0, .int .i64 0, .int .i64 0, .slice none 0 0] 92)).heap[w.heap.size]? = some (.cells #[.int .i64 0, .int .i64 0, .int .i64 0, .slice none 0 0] 92 (0, 0)) := heap_is rfl
  have hN := h.below (((Below.refl w.heap.size w).alloc (Nat.le_refl _) (.cells #[.int .i64 0, .int .i64 0, .int .i64 0, .slice none 0 0] 92)))
  have hO := Only.of_alloc L.S w (.cells #[.int .i64 0, .int .i64 0, .int .i64 0, .slice none 0 0] 92)
  have hpR : L.p ≠ w.heap.size := by omega
  rw [hoff] at hT_8
  have HOFF := Lib.hid hoff
  clear hoff
  have d1 : ¬ (M.mem : Int) + 1 ≤ c := by omega
  have d2 : ¬ (M.blk : Int) ≤ b := by omega
  have d3 : ¬ (c : Int) < 0 := by omega
  have d4 : ¬ (b : Int) < 0 := by omega
  obtain ⟨r, hr⟩ : ∃ r, r = w.heap.size := ⟨_, rfl⟩
  have hN1 : NdAt true ((w.setCell ⟨L.p, 7, none⟩ (.int .i64 (M.ops + 1 : Int))).alloc (.cells #[.int .i64 0, .int .i64 0, .int .i64 0, .slice none 0 0] 92)) L { M with ops := M.ops + 1 } := by
    have := (h.setOps (n := M.ops + 1) (by omega) (by omega)).below (((Below.refl _ _).alloc (Nat.le_refl _) (.cells #[.int .i64 0, .int .i64 0, .int .i64 0, .slice none 0 0] 92)))
    rw [Int.natCast_add] at this; exact this
  have hO1 : Only L.S w ((w.setCell ⟨L.p, 7, none⟩ (.int .i64 (M.ops + 1 : Int))).alloc (.cells #[.int .i64 0, .int .i64 0, .int .i64 0, .slice none 0 0] 92)) :=
    ((Only.refl L.S w).set ⟨L.p, 7, none⟩ _ (fun _ => h.Sp)).alloc _
  have hR1 : ((w.setCell ⟨L.p, 7, none⟩ (.int .i64 (M.ops + 1 : Int))).alloc (.cells #[.int .i64 0, .int .i64 0, .int .i64 0, .slice none 0 0] 92)).heap[r]? = some (.cells #[.int .i64 0, .int .i64 0, .int .i64 0, .slice none 0 0] 92 (0, 0)) := heap_is (by rw [hr, size_set])
  have hLr : L.tag r = .none := h.fresh (by omega)
  have hwr : w.heap.size ≤ r := by omega
  have HWR := Lib.hid hwr
  clear hwr
  have HX : BeginEnds w L M c b = BeginEnds w L M c b := rfl
  generalize hPost : BeginEnds w L M c b = Post at HX ⊢
  have HPOST := Lib.hid hPost
  clear hPost HX
  go_enter Try.func34, Try.ntmps34
  go_wp2_with fail
  rw [← hr]
  clear hr hT_0 hT_1 hT_2 hT_3 hT_4 hT_5 hT_6 hT_7 hT_8 hTf hT hR hN hO hlt hpR h
  generalize ((w.setCell ⟨L.p, 7, none⟩ (.int .i64 (M.ops + 1 : Int))).alloc (.cells #[.int .i64 0, .int .i64 0, .int .i64 0, .slice none 0 0] 92)) = w1 at hN1 hO1 hR1 ⊢
  refine (nat_calls hN1).mono ?_
  rintro e w2 ⟨v, rfl, hv, hb2⟩
  have hN2 := hN1.below hb2
  have hR2 := heap_keep hb2 hR1
  have hO2 := hO1.trans (Only.new hb2 fun _ => False) fun _ _ => False.elim
  have hfo : (M.evs.find? (Ev.now (M.ops + 1))).isSome = false → (comesOf M.evs (M.ops + 1)).kind = 0 := fun e => by
    unfold comesOf; rw [Option.isSome_eq_false_iff, Option.isNone_iff_eq_none] at e; rw [e]; rfl
  have hbeg : M.begin c b = (let M2 := Nd.die { M with ops := M.ops + 1 } (comesOf M.evs (M.ops + 1)); if M2.gone c then (if (comesOf M.evs (M.ops + 1)).kind = 2 then ({ M2 with off := true }, .zero, 72) else (M2, .zero, 71)) else (M2, comesOf M.evs (M.ops + 1), 0)) := by
    unfold Nd.begin
    rw [if_neg (by rw [HOFF.out]; simp), if_neg (by unfold Nd.inside; omega)]; rfl
  have HB := Lib.hid hbeg
  have hev := hN1.ok.left
  have hxi : I64 (comesOf M.evs (M.ops + 1)).op ∧ I64 (comesOf M.evs (M.ops + 1)).kind ∧ I64 (comesOf M.evs (M.ops + 1)).chip := by
    unfold comesOf
    cases hf : M.evs.find? (Ev.now (M.ops + 1)) with
    | none => decide
    | some y => exact (hev y (List.mem_of_find?_eq_some hf)).2
  clear hN1 hO1 hR1 hb2 hbeg hev
  obtain ⟨va, vc, rfl, -, -⟩ := hv.form
  generalize hfb : (M.evs.find? (Ev.now (M.ops + 1))).isSome = fo at hfo ⊢
  generalize hx : comesOf M.evs (M.ops + 1) = x at hfo HB hv hxi ⊢
  obtain ⟨xo, xk, xc, xl⟩ := x
  simp only at hfo hv hxi
  clear hfb hx
  simp only [evV]
  obtain ⟨q, hq⟩ : ∃ q, q = w2.heap.size := ⟨_, rfl⟩
  have hQ : (w2.alloc (.cells #[.int .i64 xo, .int .i64 xk, .int .i64 xc, .slice va xl.length vc] 92)).heap[q]? = some (.cells #[.int .i64 xo, .int .i64 xk, .int .i64 xc, .slice va xl.length vc] 92 (0, 0)) := heap_is hq
  have hb3 := (Below.refl w2.heap.size w2).alloc (Nat.le_refl _) (.cells #[.int .i64 xo, .int .i64 xk, .int .i64 xc, .slice va xl.length vc] 92)
  have hLq : L.tag q = .none := hN2.fresh (by omega)
  go_wp2_with fail
  rw [← hq]
  clear hq
  generalize w2.alloc (.cells #[.int .i64 xo, .int .i64 xk, .int .i64 xc, .slice va xl.length vc] 92) = w3 at hQ hb3 ⊢
  have hN3 := hN2.below hb3
  have hR3 := heap_keep hb3 hR2
  have hO3 := hO2.trans (Only.new hb3 fun _ => False) fun _ _ => False.elim
  have hv3 := hv.below hb3
  clear hN2 hR2 hO2 hv hb3
  obtain ⟨M2, hM2⟩ : ∃ M2, M2 = Nd.die { M with ops := M.ops + 1 } ⟨xo, xk, xc, xl⟩ := ⟨_, rfl⟩
  have hdie : M2 = if xk = 3 ∧ 0 ≤ xc ∧ xc ≤ M.mem then { M with ops := M.ops + 1, gone := upd1 M.gone xc.toNat true } else { M with ops := M.ops + 1 } := hM2
  have HD := Lib.hid hdie
  rw [← hM2] at HB
  clear hM2 hdie
  have hdrew := Below.drew (Below.refl w3.heap.size w3)
  have HDR := Lib.hid hdrew
  clear hdrew
  obtain ⟨D, hDD⟩ : ∃ D, D = decide (fo = true ∧ xk = 3 ∧ 0 ≤ xc ∧ xc ≤ M.mem) := ⟨_, rfl⟩
  have HDD := Lib.hid hDD
  clear hDD
  go_cut [79] (fun s79 wx => s79 = .bool D ∧ Below w3.heap.size w3 wx)
  case first =>
    have hT := hN3.top
    simp only [topCells, if_true] at hT
    have t5 := cells_at hT 5 _ rfl
    have q1 := cells_at hQ 1 _ rfl
    have q2 := cells_at hQ 2 _ rfl
    simp only [List.getElem_toArray, List.getElem_cons_succ, List.getElem_cons_zero] at t5 q1 q2
    clear hT hQ hN3 hR3 hO3 hv3 HB HD
    obtain ⟨-, hxk, hxc⟩ := hxi
    cases fo with
    | false =>
      (refine wp_region_mix [0, 1, 2, 3, 4, 5, 6, 7, 8, 9, 10, 11, 12, 13, 14, 15, 16, 17, 18, 19, 20] [(true, true), (true, true), (true, true), (true, false), (true, true), (true, true), (true, true), (true, true), (true, false), (true, true), (true, true), (true, true), (true, true), (true, false), (true, true), (true, true), (true, true), (true, false), (true, true), (true, true), (true, true)] [0, 1, 3, 7, 15, 31, 63, 127, 255, 511, 1023, 2047, 4095, 8191, 4095, 20479, 53247, 118783, 249855, 524287, 1048575] _ (by kernel_rfl) (by kernel_rfl) (rfl : _ = _) ?_; simp only [pickL, List.map_cons, List.map_nil, List.getD_cons_succ, List.getD_cons_zero])
      (repeat (first | (refine mix_pure (fun hne K hK => ?_); go_simp; refine hK _ ?_; clear hK K hne) | (refine mix_load ?_ (fun K hK => ?_); (focus (first | rfl | (go_simp; done))); go_simp; refine hK _ ?_; clear hK K) | (refine mix_skip ?_ (fun K hK => ?_); (focus (first | rfl | (go_simp; done))); go_simp; refine hK _ ?_; clear hK K)))
      refine mix_done ?_
      go_wp2_with fail
      go_meet
      exact ⟨by rw [HDD.out]; simp, HDR.out⟩
    | true =>
      by_cases k3 : xk = 3
      · by_cases h0 : 0 ≤ xc
        · by_cases h1 : xc ≤ M.mem
          · have h1' : xc < (M.mem : Int) + 1 := by omega
            have k3' : (xk == 3) = true := by simp [k3]
            have K3 := Lib.hid k3
            clear k3
            (refine wp_region_mix [0, 1, 2, 3, 4, 5, 6, 7, 8, 9, 10, 11, 12, 13, 14, 15, 16, 17, 18, 19, 20] [(true, true), (true, true), (true, true), (true, false), (true, true), (true, true), (true, true), (true, true), (true, false), (true, true), (true, true), (true, true), (true, true), (true, false), (true, true), (true, true), (true, true), (true, false), (true, true), (true, true), (true, true)] [0, 1, 3, 7, 15, 31, 63, 127, 255, 511, 1023, 2047, 4095, 8191, 4095, 20479, 53247, 118783, 249855, 524287, 1048575] _ (by kernel_rfl) (by kernel_rfl) (rfl : _ = _) ?_; simp only [pickL, List.map_cons, List.map_nil, List.getD_cons_succ, List.getD_cons_zero])
            (repeat (first | (refine mix_pure (fun hne K hK => ?_); go_simp; refine hK _ ?_; clear hK K hne) | (refine mix_load ?_ (fun K hK => ?_); (focus (first | rfl | (go_simp; done))); go_simp; refine hK _ ?_; clear hK K) | (refine mix_skip ?_ (fun K hK => ?_); (focus (first | rfl | (go_simp; done))); go_simp; refine hK _ ?_; clear hK K)))
            refine mix_done ?_
            go_wp2_with fail
            go_meet
            exact ⟨by rw [HDD.out]; simp [K3.out, h0, h1], HDR.out⟩
          · have h1' : ¬ xc < (M.mem : Int) + 1 := by omega
            have k3' : (xk == 3) = true := by simp [k3]
            have K3 := Lib.hid k3
            clear k3
            (refine wp_region_mix [0, 1, 2, 3, 4, 5, 6, 7, 8, 9, 10, 11, 12, 13, 14, 15, 16, 17, 18, 19, 20] [(true, true), (true, true), (true, true), (true, false), (true, true), (true, true), (true, true), (true, true), (true, false), (true, true), (true, true), (true, true), (true, true), (true, false), (true, true), (true, true), (true, true), (true, false), (true, true), (true, true), (true, true)] [0, 1, 3, 7, 15, 31, 63, 127, 255, 511, 1023, 2047, 4095, 8191, 4095, 20479, 53247, 118783, 249855, 524287, 1048575] _ (by kernel_rfl) (by kernel_rfl) (rfl : _ = _) ?_; simp only [pickL, List.map_cons, List.map_nil, List.getD_cons_succ, List.getD_cons_zero])
            (repeat (first | (refine mix_pure (fun hne K hK => ?_); go_simp; refine hK _ ?_; clear hK K hne) | (refine mix_load ?_ (fun K hK => ?_); (focus (first | rfl | (go_simp; done))); go_simp; refine hK _ ?_; clear hK K) | (refine mix_skip ?_ (fun K hK => ?_); (focus (first | rfl | (go_simp; done))); go_simp; refine hK _ ?_; clear hK K)))
            refine mix_done ?_
            go_wp2_with fail
            go_meet
            exact ⟨by rw [HDD.out]; simp; omega, HDR.out⟩
        · have k3' : (xk == 3) = true := by simp [k3]
          have K3 := Lib.hid k3
          clear k3
          (refine wp_region_mix [0, 1, 2, 3, 4, 5, 6, 7, 8, 9, 10, 11, 12, 13, 14, 15, 16, 17, 18, 19, 20] [(true, true), (true, true), (true, true), (true, false), (true, true), (true, true), (true, true), (true, true), (true, false), (true, true), (true, true), (true, true), (true, true), (true, false), (true, true), (true, true), (true, true), (true, false), (true, true), (true, true), (true, true)] [0, 1, 3, 7, 15, 31, 63, 127, 255, 511, 1023, 2047, 4095, 8191, 4095, 20479, 53247, 118783, 249855, 524287, 1048575] _ (by kernel_rfl) (by kernel_rfl) (rfl : _ = _) ?_; simp only [pickL, List.map_cons, List.map_nil, List.getD_cons_succ, List.getD_cons_zero])
          (repeat (first | (refine mix_pure (fun hne K hK => ?_); go_simp; refine hK _ ?_; clear hK K hne) | (refine mix_load ?_ (fun K hK => ?_); (focus (first | rfl | (go_simp; done))); go_simp; refine hK _ ?_; clear hK K) | (refine mix_skip ?_ (fun K hK => ?_); (focus (first | rfl | (go_simp; done))); go_simp; refine hK _ ?_; clear hK K)))
          refine mix_done ?_
          go_wp2_with fail
          go_meet
          exact ⟨by rw [HDD.out]; simp; omega, HDR.out⟩
      · have k3' : (xk == 3) = false := by simp [k3]
        (refine wp_region_mix [0, 1, 2, 3, 4, 5, 6, 7, 8, 9, 10, 11, 12, 13, 14, 15, 16, 17, 18, 19, 20] [(true, true), (true, true), (true, true), (true, false), (true, true), (true, true), (true, true), (true, true), (true, false), (true, true), (true, true), (true, true), (true, true), (true, false), (true, true), (true, true), (true, true), (true, false), (true, true), (true, true), (true, true)] [0, 1, 3, 7, 15, 31, 63, 127, 255, 511, 1023, 2047, 4095, 8191, 4095, 20479, 53247, 118783, 249855, 524287, 1048575] _ (by kernel_rfl) (by kernel_rfl) (rfl : _ = _) ?_; simp only [pickL, List.map_cons, List.map_nil, List.getD_cons_succ, List.getD_cons_zero])
        (repeat (first | (refine mix_pure (fun hne K hK => ?_); go_simp; refine hK _ ?_; clear hK K hne) | (refine mix_load ?_ (fun K hK => ?_); (focus (first | rfl | (go_simp; done))); go_simp; refine hK _ ?_; clear hK K) | (refine mix_skip ?_ (fun K hK => ?_); (focus (first | rfl | (go_simp; done))); go_simp; refine hK _ ?_; clear hK K)))
        refine mix_done ?_
        go_wp2_with fail
        go_meet
        exact ⟨by rw [HDD.out]; simp [k3], HDR.out⟩
  case rest =>
    obtain ⟨rfl, hb4⟩ := hcut
    have hN4 := hN3.below hb4
    have hR4 := heap_keep hb4 hR3
    have hQ4 := heap_keep hb4 hQ
    have hO4 := hO3.trans (Only.new hb4 fun _ => False) fun _ _ => False.elim
    have hv4 := hv3.below hb4
    clear hN3 hR3 hQ hO3 hv3 hb4 HDR
    go_upto_if 79 with (fail)
    go_cut [] (fun wx => NdAt true wx L M2 ∧ wx.heap[r]? = some (.cells #[.int .i64 0, .int .i64 0, .int .i64 0, .slice none 0 0] 92 (0, 0)) ∧ wx.heap[q]? = some (.cells #[.int .i64 xo, .int .i64 xk, .int .i64 xc, .slice va xl.length vc] 92 (0, 0)) ∧ Only L.S w wx ∧ RB wx (.slice va xl.length vc) xl)
    case first =>
      have hT := hN4.top
      simp only [topCells, if_true] at hT
      have t5 := cells_at hT 5 _ rfl
      have q2 := cells_at hQ4 2 _ rfl
      simp only [List.getElem_toArray, List.getElem_cons_succ, List.getElem_cons_zero] at t5 q2
      obtain ⟨-, hxk, hxc⟩ := hxi
      cases D with
      | true =>
        have hD := of_decide_eq_true HDD.out.symm
        obtain ⟨rfl, k3, h0, h1⟩ := hD
        obtain ⟨n, rfl⟩ : ∃ n : Nat, xc = n := ⟨xc.toNat, by omega⟩
        have hMM : M2 = { M with ops := M.ops + 1, gone := upd1 M.gone n true } := by rw [HD.out, if_pos ⟨k3, h0, h1⟩]; rfl
        have hcell := hN4.dead.cell (o := n) (show n < M.mem + 1 by omega)
        have hfz := hN4.dead.froz n
        have hset := hN4.setGone (c := n) (show n ≤ M.mem by omega) true
        have hO5 := hO4.set ⟨L.dd, n, none⟩ (.bool true) (fun _ => hN4.Sd)
        have hR5 := set_other (a := ⟨L.dd, n, none⟩) (.bool true) hR4 (hN4.ne_tag hLr hN4.td (by simp))
        have hQ5 := set_other (a := ⟨L.dd, n, none⟩) (.bool true) hQ4 (hN4.ne_tag hLq hN4.td (by simp))
        have hv5 := hv4.only (Only.of_set wc ⟨L.dd, n, none⟩ (.bool true)) (fun b _ e => by rw [e]; exact hN4.noByte hN4.Sd)
        rw [← hMM] at hset
        have hlt1 : (n : Int) < (M.mem : Int) + 1 := by omega
        have hnn : ¬ (n : Int) < 0 := by omega
        have HX := Lib.hid (⟨hset, hR5, hQ5, hO5, hv5⟩ : _ ∧ _ ∧ _ ∧ _ ∧ _)
        clear hT hN4 hR4 hQ4 hO4 hv4 HB HD k3 hMM hset hR5 hQ5 hO5 hv5 HDD
        go_wp2_with fail
        (refine wp_region_mix [0, 1, 2, 3, 4, 5, 6, 7] [(true, true), (true, true), (true, true), (true, false), (true, true), (true, false), (true, true), (false, false)] [0, 1, 3, 7, 0, 16, 63, 127] _ (by kernel_rfl) (by kernel_rfl) (rfl : _ = _) ?_; simp only [pickL, List.map_cons, List.map_nil, List.getD_cons_succ, List.getD_cons_zero])
        (repeat (first | (refine mix_pure (fun hne K hK => ?_); go_simp; refine hK _ ?_; clear hK K hne) | (refine mix_load ?_ (fun K hK => ?_); (focus (first | rfl | (go_simp; done))); go_simp; refine hK _ ?_; clear hK K) | (refine mix_skip ?_ (fun K hK => ?_); (focus (first | rfl | (go_simp; done))); go_simp; refine hK _ ?_; clear hK K)))
        (refine mix_one (by first | rfl | (go_simp; done)) (fun R hR hX => ?_))
        go_wp2_with fail
        ((try simp only [wpList]); refine hR _ _ rfl ⟨fun w' => w' = _, rfl, (fun h => by cases h), ?_⟩; clear hR hX R)
        refine mix_done ?_
        go_wp2_with fail
        go_meet
        obtain ⟨a1, a2, a3, a4, a5⟩ := HX.out
        exact ⟨a1.drew, a2, a3, a4.drew, a5⟩
      | false =>
        have hD := of_decide_eq_false HDD.out.symm
        have hMM : M2 = { M with ops := M.ops + 1 } := by
          rw [HD.out]
          by_cases k : xk = 3 ∧ 0 ≤ xc ∧ xc ≤ M.mem
          · have : fo = false := by
              cases fo
              · rfl
              · exact absurd ⟨rfl, k⟩ hD
            have := hfo this
            omega
          · rw [if_neg k]
        rw [← hMM] at hN4
        clear hD hMM HDD
        go_wp2_with fail
        go_meet
        exact ⟨hN4, hR4, hQ4, hO4, hv4⟩
    case rest =>
      obtain ⟨hN5, hR5, hQ5, hO5, hv5⟩ := hcut
      obtain ⟨-, hxk, -⟩ := hxi
      have e1 : M2.mem = M.mem := by rw [HD.out]; split <;> rfl
      have e2 : M2.blk = M.blk := by rw [HD.out]; split <;> rfl
      have hT := hN5.top
      simp only [topCells, if_true, e1] at hT
      have t4 := cells_at hT 4 _ rfl
      have t5 := cells_at hT 5 _ rfl
      have t8 := froz_at hT 8
      have t8c := cells_at hT 8 _ rfl
      have hgone := hN5.dead.cell (o := c) (show c < M2.mem + 1 by omega)
      have hcs := hN5.chips.cell (o := c) (show c < M2.mem + 1 by omega)
      simp only [List.getElem_toArray, List.getElem_cons_succ, List.getElem_cons_zero] at t4 t5 t8c
      have q0 := cells_at hQ5 0 _ rfl
      have q1 := cells_at hQ5 1 _ rfl
      have q2 := cells_at hQ5 2 _ rfl
      have q3 := cells_at hQ5 3 _ rfl
      simp only [List.getElem_toArray, List.getElem_cons_succ, List.getElem_cons_zero] at q0 q1 q2 q3
      have r0 := cells_at hR5 0 _ rfl
      have r1 := cells_at hR5 1 _ rfl
      have r2 := cells_at hR5 2 _ rfl
      have r3 := cells_at hR5 3 _ rfl
      have rf0 := froz_at hR5 0
      have rf1 := froz_at hR5 1
      have rf2 := froz_at hR5 2
      have rf3 := froz_at hR5 3
      have hcl : (c : Int) < (M.mem : Int) + 1 := by omega
      have hbl : (b : Int) < (M.blk : Int) := by omega
      have hlr := heap_lt hR5
      have hlq := heap_lt hQ5
      have hnr := noByte4 hR5
      rw [e2] at hcs
      have HF := Lib.hid hfo
      have E1 := Lib.hid e1
      have E2 := Lib.hid e2
      have HR := Lib.hid hR5
      clear hT hQ5 hfo HDD HD e1 e2 hR5
      by_cases hg : M2.gone c = true
      · rw [hg] at hgone
        by_cases hk2 : xk = 2
        · have hfo : fo = true := by
            cases fo
            · have := HF.out rfl; omega
            · rfl
          subst hfo
          have hk2' : (xk == 2) = true := by simp [hk2]
          have hb := HB.out
          rw [if_pos hg, if_pos hk2] at hb
          have HB2 := Lib.hid hb
          clear hb hk2 hg HB
          have hN6 := hN5.setOff true
          have hO6 := hO5.set ⟨L.p, 8, none⟩ (.bool true) (fun _ => hN5.Sp)
          have hR6 := set_other (a := ⟨L.p, 8, none⟩) (.bool true) HR.out (hN5.ne_tag hLr hN5.tp (by simp))
          have HX := Lib.hid (⟨hN6, hO6, hR6⟩ : _ ∧ _ ∧ _)
          clear hN6 hO6 hR6 hN5 hO5
          go_wp2_with fail
          obtain ⟨hN6, hO6, hR6⟩ := HX.out
          refine bodyPost_ret (res_tct rfl rfl (set4 hR6) Try.underlying92 rfl (by kernel_rfl)) rfl ?_
          exact begin_end (x := .zero) (n := 72) (v := .slice none 0 0) hN6 hLr hR6 hO6 HWR.out (RB.nil _) HB2.out HPOST.out
        · have hb := HB.out
          have hk2' : (xk == 2) = false := by simp [hk2]
          rw [if_pos hg, if_neg hk2] at hb
          have HB2 := Lib.hid hb
          clear hb hk2 hg HB
          cases fo
          all_goals
            go_wp2_with fail
            refine bodyPost_ret (res_tct rfl rfl (set4 HR.out) Try.underlying92 rfl (by kernel_rfl)) rfl ?_
            exact begin_end (x := .zero) (n := 71) (v := .slice none 0 0) hN5 hLr HR.out hO5 HWR.out (RB.nil _) HB2.out HPOST.out
      · have hg' : M2.gone c = false := by simpa using hg
        rw [hg'] at hgone
        have hb := HB.out
        rw [if_neg hg] at hb
        have HB2 := Lib.hid hb
        clear hb hg HB
        go_wp2_with fail
        (refine wp_region_mix [0, 1, 2, 3, 4, 5, 6, 7, 8, 9, 10, 11, 12] [(true, true), (true, true), (true, true), (true, false), (true, true), (true, true), (true, false), (true, true), (true, true), (true, false), (true, true), (false, false), (true, true)] [0, 1, 3, 7, 0, 31, 63, 0, 255, 0, 511, 2047, 4095] _ (by kernel_rfl) (by kernel_rfl) (rfl : _ = _) ?_; simp only [pickL, List.map_cons, List.map_nil, List.getD_cons_succ, List.getD_cons_zero])
        (repeat (first | (refine mix_pure (fun hne K hK => ?_); go_simp; refine hK _ ?_; clear hK K hne) | (refine mix_load ?_ (fun K hK => ?_); (focus (first | rfl | (go_simp; done))); go_simp; refine hK _ ?_; clear hK K) | (refine mix_skip ?_ (fun K hK => ?_); (focus (first | rfl | (go_simp; done))); go_simp; refine hK _ ?_; clear hK K)))
        (refine mix_one (by first | rfl | (go_simp; done)) (fun R hR hX => ?_))
        go_wp2_with fail
        ((try simp only [wpList]); refine hR _ _ rfl ⟨fun w' => w' = _, rfl, (fun h => by cases h), ?_⟩; clear hR hX R)
        (repeat (first | (refine mix_pure (fun hne K hK => ?_); go_simp; refine hK _ ?_; clear hK K hne) | (refine mix_load ?_ (fun K hK => ?_); (focus (first | rfl | (go_simp; done))); go_simp; refine hK _ ?_; clear hK K) | (refine mix_skip ?_ (fun K hK => ?_); (focus (first | rfl | (go_simp; done))); go_simp; refine hK _ ?_; clear hK K)))
        refine mix_done ?_
        go_wp2_with fail
        refine bodyPost_ret (res_tct rfl rfl (heap_drew (set4 HR.out)) Try.underlying92 rfl (by kernel_rfl)) rfl ?_
        exact begin_end_drew (x := ⟨xo, xk, xc, xl⟩) (n := 0) (v := .slice va xl.length vc) (c := c) (b := b) hN5 hLr HR.out hO5 HWR.out hv5 HB2.out HPOST.out
theorem begin_calls {w : World} {L : NdLay} {M : Nd} (h : NdAt true w L M) (c b : Int) (hc : I64 c) (hb : I64 b) (hops : M.ops < 1000000) :
    Calls Try.prog 34 #[ptrV L.p, .int .i64 c, .int .i64 b] w (BeginEnds w L M c b) := by
  by_cases hoff : M.off = true
  · exact begin_out h c b hc hb (.inl hoff)
  · by_cases hin : M.inside c b
    · obtain ⟨h1, h2, h3, h4⟩ := hin
      obtain ⟨c, rfl⟩ : ∃ n : Nat, c = n := ⟨c.toNat, by omega⟩
      obtain ⟨b, rfl⟩ : ∃ n : Nat, b = n := ⟨b.toNat, by omega⟩
      exact begin_in h c b (by omega) (by omega) (by simpa using hoff) hops
    · exact begin_out h c b hc hb (.inr hin)
end Go.Proofs.Ytphnjiokihbhnaa
