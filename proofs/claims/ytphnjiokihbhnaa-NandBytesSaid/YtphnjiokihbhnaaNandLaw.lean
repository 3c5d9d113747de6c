/- law 4: the shapes, what begins, quiet chips. -/
--only r2
import Derived.Test.YtphnjiokihbhnaaNandNew
import Derived.Test.YtphnjiokihbhnaaStr
namespace Go.Proofs.Ytphnjiokihbhnaa
set_option linter.unusedVariables false
set_option linter.unusedSimpArgs false
open Go.RowKit

/-- chips to which nothing comes -/
theorem begin_quiet {M : Nd} (he : M.evs = []) (ho : M.off = false) {c b : Int} (hi : M.inside c b) (hg : M.gone c.toNat = false) : M.begin c b = ({ M with ops := M.ops + 1 }, .zero, 0) := by
  have hc : comesOf M.evs (M.ops + 1) = .zero := by rw [he]; rfl
  unfold Nd.begin
  rw [if_neg (by simp [ho]), if_neg (by simp [hi])]
  simp only [hc]
  have hd : Nd.die { M with ops := M.ops + 1 } .zero = { M with ops := M.ops + 1 } := if_neg (by simp [Ev.zero])
  rw [hd]
  simp only [hg]
  rfl

theorem shape_calls (n : Int) (w : World) : ∃ k : Nat, (k = 3 ∨ k = 4) ∧ (n = 0 → k = 3) ∧ (n = 1 → k = 4) ∧ Calls Try.prog 11 #[.int .i64 n] w fun e w' => e = .returned (geoV k 16 4 256) ∧ Below w.heap.size w w' := by
  obtain ⟨j, hj, hpick⟩ := pick_eq n 2 (by omega) (by omega)
  rw [show ((2 : Nat) : Int) = 2 from rfl] at hpick
  refine ⟨3 + j, by omega, fun h => ?_, fun h => ?_, ?_⟩
  · subst h
    rw [IntKind.wrap_u64] at hpick
    unfold wrap64 at hpick
    have e : ((0 : Int) % 18446744073709551616).tmod 2 = 0 := by decide
    rw [e] at hpick
    omega
  · subst h
    rw [IntKind.wrap_u64] at hpick
    unfold wrap64 at hpick
    have e : ((1 : Int) % 18446744073709551616).tmod 2 = 1 := by decide
    rw [e] at hpick
    omega
  have hbel := (Below.refl w.heap.size w).alloc (Nat.le_refl _) (.cells #[.int .i64 (3 + (j : Int)), .int .i64 16, .int .i64 4, .int .i64 256] 29)
  have hR : (w.alloc (.cells #[.int .i64 (3 + (j : Int)), .int .i64 16, .int .i64 4, .int .i64 256] 29)).heap[w.heap.size]? = some (.cells #[.int .i64 (3 + (j : Int)), .int .i64 16, .int .i64 4, .int .i64 256] 29 (0, 0)) := heap_is rfl
  go_enter Try.func11, Try.ntmps11
  go_wp2_with fail
  refine bodyPost_ret (res_c rfl rfl hR Try.underlying29 rfl (by kernel_rfl)) rfl ⟨?_, hbel⟩
  rw [Int.natCast_add]; rfl

set_option maxHeartbeats 1000000 in
theorem ops_calls {w : World} {L : NdLay} {M : Nd} (h : NdAt true w L M) : Calls Try.prog 20 #[ptrV L.p] w fun e w' => e = .returned (.int .i64 M.ops) ∧ w = w' := by
  have hT := h.top
  simp only [topCells, if_true] at hT
  have t7 := cells_at hT 7 _ rfl
  simp only [List.getElem_toArray, List.getElem_cons_succ, List.getElem_cons_zero] at t7
  go_enter Try.func20, Try.ntmps20
  go_wp2_with fail
  go_ret
  exact ⟨rfl, rfl⟩

/-- New, of all that it may be given -/
theorem new_calls (c b p s : Int) (vb : Value) (bads : List (Int × Int)) (ea : Option Addr) (ec : Nat) (xs : List Ev) (w : World) (hb : RPair w vb bads) (hbl : bads.length ≤ 100000) (he : REv w ea ec xs (fun _ => True)) (hxl : xs.length ≤ 1000) (hxo : evsOk xs) :
    Calls Try.prog 10 #[geoV c b p s, vb, .slice ea xs.length ec] w (NewEnds c b p s bads xs w) := by
  by_cases h : geoOk c b p s ∧ xs.length ≤ 200
  · obtain ⟨hg, hx⟩ := h
    obtain ⟨g1, g2, g3, g4, g5, g6, g7, g8, g9⟩ := id hg
    obtain ⟨c, rfl⟩ : ∃ n : Nat, c = n := ⟨c.toNat, by omega⟩
    obtain ⟨b, rfl⟩ : ∃ n : Nat, b = n := ⟨b.toNat, by omega⟩
    obtain ⟨p, rfl⟩ : ∃ n : Nat, p = n := ⟨p.toNat, by omega⟩
    obtain ⟨s, rfl⟩ : ∃ n : Nat, s = n := ⟨s.toNat, by omega⟩
    exact new_yes c b p s vb bads ea ec xs w hb hbl he hg hx hxo
  · exact new_no c b p s vb bads ea ec xs w hb he h hxl
/-- New, of one of the small shapes, with nothing bad and nothing to come -/
theorem new_plain (k : Nat) (hk : k = 3 ∨ k = 4) (w : World) :
    Calls Try.prog 10 #[geoV k 16 4 256, .slice none 0 0, .slice none 0 0] w (Made w (Nd.fresh k 16 4 256 (fun _ _ => false) [])) := by
  have := new_calls k 16 4 256 (.slice none 0 0) [] none 0 [] w (RPair.nil w) (by simp) ⟨Nat.le_refl _, by simp [maxLen], fun _ => rfl, .inl rfl⟩ (by simp) (fun x hx => by cases hx)
  refine this.mono fun e w' h => ?_
  have hg : geoOk k 16 4 256 := by unfold geoOk; omega
  exact h.1 ⟨hg, by simp, fun x hx => by cases hx⟩

theorem prog_quiet {M : Nd} (he : M.evs = []) (ho : M.off = false) {c b : Int} (hi : M.inside c b) (hg : M.gone c.toNat = false) (hb : M.bad c.toNat b.toNat = false) (p : Int) (d o : List UInt8) :
    M.program c b p d o = if ¬ (M.pageIn p ∧ d.length = M.siz ∧ o.length = 64) then ({ M with ops := M.ops + 1 }, 34) else if p ≠ M.next c.toNat b.toNat then ({ M with ops := M.ops + 1 }, 73) else ({ M with ops := M.ops + 1 }.lay c.toNat b.toNat p.toNat (d ++ o), 0) := by
  unfold Nd.program
  rw [begin_quiet he ho hi hg]
  simp only [Ev.zero, hb]
  rfl
theorem read_quiet {M : Nd} (he : M.evs = []) (ho : M.off = false) {c b : Int} (hi : M.inside c b) (hg : M.gone c.toNat = false) (p : Int) :
    M.read c b p = if ¬ M.pageIn p then ({ M with ops := M.ops + 1 }, [], 34) else ({ M with ops := M.ops + 1 }, if (M.page c.toNat b.toNat p.toNat).length = 0 then full (M.siz + 64) else M.page c.toNat b.toNat p.toNat, 0) := by
  unfold Nd.read
  rw [begin_quiet he ho hi hg]
  simp only [Ev.zero]
  rfl
theorem erase_quiet {M : Nd} (he : M.evs = []) (ho : M.off = false) {c b : Int} (hi : M.inside c b) (hg : M.gone c.toNat = false) (hb : M.bad c.toNat b.toNat = false) :
    M.erase c b = (({ M with ops := M.ops + 1 }.fill c.toNat b.toNat 0 []).count c.toNat b.toNat, 0) := by
  unfold Nd.erase
  rw [begin_quiet he ho hi hg]
  simp only [Ev.zero, hb]
  rfl

/-- a function that is true, and turns nothing old -/
def IsTrue (w : World) (e : Ending) (w' : World) : Prop := e = .returned (.bool true) ∧ Below w.heap.size w w'

set_option maxRecDepth 100000 in
set_option maxHeartbeats 4000000 in
theorem begun_calls (w : World) : Calls Try.prog 9 #[] w (IsTrue w) := by
  obtain ⟨k, hk, hk0, -, hshape⟩ := shape_calls 0 w
  obtain rfl : k = 3 := hk0 rfl
  have HS := Lib.hid hshape
  generalize hPost : IsTrue w = Post
  have HP := Lib.hid hPost
  clear hPost hshape hk0 hk
  go_enter Try.func9, Try.ntmps9
  go_wp2_with fail
  refine HS.out.mono ?_
  rintro e w1 ⟨rfl, hb1⟩
  go_wp2_with fail
  refine (new_plain 3 (.inl rfl) w1).mono ?_
  rintro e w2 ⟨L, rfl, hN, hL, hb2⟩
  have hB2 := hb1.trans (hb2.mono hb1.size)
  have hLw : ∀ x, L.S x → w.heap.size ≤ x := fun x hx => Nat.le_trans hb1.size (hL x (NdLay.S_ne hx))
  clear hb1 hb2 HS hL
  go_wp2_with fail
  refine (zeros_calls 256 w2 (by omega)).mono ?_
  rintro e w3 ⟨rfl, hw3⟩
  have hb3 : Below w2.heap.size w2 w3 := by rw [hw3]; exact (Below.refl _ _).alloc (Nat.le_refl _) _
  have hd3 : RB w3 (.slice (some ⟨w2.heap.size, 0, none⟩) 256 256) (List.replicate 256 0) := by
    rw [hw3]; exact RV.block (heap_new _ _) (by simp) (Nat.le_refl _) (by unfold maxLen; omega) (by simp)
  clear hw3
  have hN3 := hN.below hb3
  have hB3 := hB2.trans (hb3.mono hB2.size)
  generalize w2.heap.size = q1 at hd3 ⊢
  clear hN hB2 hb3
  go_wp2_with fail
  refine (zeros_calls 64 w3 (by omega)).mono ?_
  rintro e w4 ⟨rfl, hw4⟩
  have hb4 : Below w3.heap.size w3 w4 := by rw [hw4]; exact (Below.refl _ _).alloc (Nat.le_refl _) _
  have ho4 : RB w4 (.slice (some ⟨w3.heap.size, 0, none⟩) 64 64) (List.replicate 64 0) := by
    rw [hw4]; exact RV.block (heap_new _ _) (by simp) (Nat.le_refl _) (by unfold maxLen; omega) (by simp)
  clear hw4
  have hN4 := hN3.below hb4
  have hd4 := hd3.below hb4
  have hB4 := hB3.trans (hb4.mono hB3.size)
  generalize w3.heap.size = q2 at ho4 ⊢
  clear hN3 hB3 hb4 hd3
  obtain ⟨d, hd⟩ : ∃ d, d = List.replicate 256 (0 : UInt8) := ⟨_, rfl⟩
  obtain ⟨o, ho⟩ : ∃ o, o = List.replicate 64 (0 : UInt8) := ⟨_, rfl⟩
  have hdl : d.length = 256 := by rw [hd]; simp
  have hol : o.length = 64 := by rw [ho]; simp
  rw [← hd] at hd4
  rw [← ho] at ho4
  clear hd ho
  have HDL := Lib.hid hdl
  have HOL := Lib.hid hol
  clear hdl hol
  have hin : ∀ M : Nd, M.mem = 3 → M.blk = 16 → M.inside 0 3 := fun M h1 h2 => by unfold Nd.inside; omega
  obtain ⟨M0, hM0⟩ : ∃ M0, M0 = Nd.fresh 3 16 4 256 (fun _ _ => false) [] := ⟨_, rfl⟩
  rw [← hM0] at hN4
  have hp1 : M0.program 0 3 1 d o = ({ M0 with ops := 1 }, 73) := by
    rw [prog_quiet (by rw [hM0]; rfl) (by rw [hM0]; rfl) (hin _ (by rw [hM0]; rfl) (by rw [hM0]; rfl)) (by rw [hM0]; rfl) (by rw [hM0]; rfl), hM0]
    rw [if_neg (by simp [Nd.pageIn, Nd.fresh, HDL.out, HOL.out]), if_pos (by simp [Nd.fresh])]; rfl
  obtain ⟨M1, hM1⟩ : ∃ M1, M1 = { M0 with ops := 1 } := ⟨_, rfl⟩
  rw [← hM1] at hp1
  have hp2 : M1.program 0 3 0 d o = ({ M1 with ops := 2 }.lay 0 3 0 (d ++ o), 0) := by
    rw [prog_quiet (by rw [hM1, hM0]; rfl) (by rw [hM1, hM0]; rfl) (hin _ (by rw [hM1, hM0]; rfl) (by rw [hM1, hM0]; rfl)) (by rw [hM1, hM0]; rfl) (by rw [hM1, hM0]; rfl), hM1, hM0]
    rw [if_neg (by simp [Nd.pageIn, Nd.fresh, HDL.out, HOL.out]), if_neg (by simp [Nd.fresh])]; rfl
  obtain ⟨M2, hM2⟩ : ∃ M2, M2 = { M1 with ops := 2 }.lay 0 3 0 (d ++ o) := ⟨_, rfl⟩
  rw [← hM2] at hp2
  have hp3 : M2.read 0 3 0 = ({ M2 with ops := 3 }, d ++ o, 0) := by
    rw [read_quiet (by rw [hM2, hM1, hM0]; rfl) (by rw [hM2, hM1, hM0]; rfl) (hin _ (by rw [hM2, hM1, hM0]; rfl) (by rw [hM2, hM1, hM0]; rfl)) (by rw [hM2, hM1, hM0]; rfl), hM2, hM1, hM0]
    rw [if_neg (by simp [Nd.pageIn, Nd.fresh, Nd.lay])]
    have e : ∀ f, upd3 f (Int.toNat 0) (Int.toNat 3) (Int.toNat 0) (d ++ o) (Int.toNat 0) (Int.toNat 3) (Int.toNat 0) = d ++ o := fun f => upd3_same _ _ _ _ _
    have e2 : ((({ Nd.fresh 3 16 4 256 (fun _ _ => false) [] with ops := 2 } : Nd).lay 0 3 0 (d ++ o)).page (Int.toNat 0) (Int.toNat 3) (Int.toNat 0)) = d ++ o := e (Nd.fresh 3 16 4 256 (fun _ _ => false) []).page
    rw [show (({ ({ Nd.fresh 3 16 4 256 (fun _ _ => false) [] with ops := 1 } : Nd) with ops := 2 } : Nd).lay 0 3 0 (d ++ o)).page (Int.toNat 0) (Int.toNat 3) (Int.toNat 0) = d ++ o from e2]
    rw [if_neg (by rw [List.length_append, HDL.out, HOL.out]; omega)]; rfl
  have hs2 : M2.siz = 256 := by rw [hM2, hM1, hM0]; rfl
  have hc1 := nprog_calls hN4 0 3 1 _ _ d o (by decide) (by decide) (by decide) hd4 ho4 (by rw [HDL.out]; omega) (by rw [HOL.out]; omega) (by rw [hM0]; show 0 < 1000000; omega)
  rw [hp1] at hc1
  have HC1 := Lib.hid hc1
  have HP2 := Lib.hid hp2
  have HP3 := Lib.hid hp3
  have hm1 : M1.ops = 1 := by rw [hM1]
  have hm2 : M2.ops = 2 := by rw [hM2]; rfl
  have HM1 := Lib.hid hm1
  have HM2 := Lib.hid hm2
  have HS2 := Lib.hid hs2
  have hnb : ∀ x, L.S x → NoByte w4 x := fun x => hN4.noByte
  clear hc1 hp1 hp2 hp3 hM0 hM1 hM2 hin hs2 hm1 hm2 hN4
  go_wp2_with fail
  refine HC1.out.mono ?_
  rintro e w5 ⟨L5, hL5, rfl, hN5, hO5⟩
  have hd5 := hd4.only hO5 (fun x _ => hnb x)
  have ho5 := ho4.only hO5 (fun x _ => hnb x)
  have hB5 := hB4.trans (hO5.below hB4.size fun x hx h => by have := hLw x h; omega)
  clear hd4 ho4 hB4 hO5 hnb HC1
  have hc2 := nprog_calls hN5 0 3 0 _ _ d o (by decide) (by decide) (by decide) hd5 ho5 (by rw [HDL.out]; omega) (by rw [HOL.out]; omega) (by show M1.ops < 1000000; rw [HM1.out]; omega)
  rw [HP2.out, hL5.p] at hc2
  have HC2 := Lib.hid hc2
  have hnb : ∀ x, L.S x → NoByte w5 x := fun x h => hN5.noByte (by rw [hL5.S]; exact h)
  clear hc2 hN5
  go_wp2_with fail
  refine HC2.out.mono ?_
  rintro e w6 ⟨L6, hL6, rfl, hN6, hO6⟩
  rw [hL5.S] at hO6
  have hd6 := hd5.only hO6 (fun x _ => hnb x)
  have ho6 := ho5.only hO6 (fun x _ => hnb x)
  have hB6 := hB5.trans (hO6.below hB5.size fun x hx h => by have := hLw x h; omega)
  have hL := hL5.trans hL6
  clear hd5 ho5 hB5 hO6 hnb HC2 hL5 hL6
  have hc3 := nread_calls hN6 0 3 0 (by decide) (by decide) (by decide) (by show M2.ops < 1000000; rw [HM2.out]; omega)
  rw [hL.p] at hc3
  have HC3 := Lib.hid hc3
  have hnb : ∀ x, L.S x → NoByte w6 x := fun x h => hN6.noByte (by rw [hL.S]; exact h)
  clear hc3 hN6
  go_wp2_with fail
  refine HC3.out.mono ?_
  unfold ReadEnds
  simp only [HP3.out, HS2.out]
  rintro e w7 ⟨v1, v2, rfl, hv1, hv2, hN7, hO7⟩
  rw [hL.S] at hO7
  have hd7 := hd6.only hO7 (fun x _ => hnb x)
  have ho7 := ho6.only hO7 (fun x _ => hnb x)
  have hB7 := hB6.trans (hO7.below hB6.size fun x hx h => by have := hLw x h; omega)
  rw [List.take_append_of_le_length (by rw [HDL.out]; omega), List.take_of_length_le (by rw [HDL.out]; omega)] at hv1
  rw [List.drop_append_of_le_length (by rw [HDL.out]; omega), List.drop_of_length_le (by rw [HDL.out]; omega), List.nil_append] at hv2
  obtain ⟨a1, k1, rfl, -, -⟩ := hv1.form
  obtain ⟨a2, k2, rfl, -, -⟩ := hv2.form
  clear hd6 ho6 hB6 hO7 hnb HC3
  have hs1 := rsame_calls _ _ d d w7 hv1 hd7
  have hs2 := rsame_calls _ _ o o w7 hv2 ho7
  have hop := ops_calls hN7
  rw [hL.p] at hop
  rw [decide_eq_true rfl] at hs1 hs2
  have HS1 := Lib.hid hs1
  have HS2 := Lib.hid hs2
  have HOP := Lib.hid hop
  clear hs1 hs2 hop hN7 hv1 hv2 hd7 ho7
  go_wp2_with fail
  refine HS1.out.mono ?_
  rintro e w8 ⟨rfl, rfl⟩
  go_wp2_with fail
  refine HS2.out.mono ?_
  rintro e w8 ⟨rfl, rfl⟩
  go_wp2_with fail
  refine HOP.out.mono ?_
  rintro e w8 ⟨rfl, rfl⟩
  go_wp2_with fail
  rw [← HP.out]
  exact ⟨rfl, hB7⟩
end Go.Proofs.Ytphnjiokihbhnaa
