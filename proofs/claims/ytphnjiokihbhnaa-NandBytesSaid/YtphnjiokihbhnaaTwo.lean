/- Chips and the reference's chips beside each other. -/
--only r2
import Derived.Test.YtphnjiokihbhnaaNandBoot
import Derived.Test.YtphnjiokihbhnaaNandErase
import Derived.Test.YtphnjiokihbhnaaRefErase
import Derived.Test.YtphnjiokihbhnaaRefPad
import Derived.Test.YtphnjiokihbhnaaStr
namespace Go.Proofs.Ytphnjiokihbhnaa
set_option linter.unusedVariables false
set_option linter.unusedSimpArgs false
open Go.RowKit

/-- an operation as it is asked for -/
structure POp where
  kind : Int
  chip : Int
  block : Int
  page : Int
  data : UInt8
  short : Bool
def POp.Ok (o : POp) : Prop := I64 o.kind ∧ I64 o.chip ∧ I64 o.block ∧ I64 o.page
def POp.all (o : POp) : List UInt8 := (List.range 256).map fun i => o.data + UInt8.ofNat i
def POp.bytes (o : POp) : List UInt8 := if o.short then o.all.take 255 else o.all
def POp.beside (o : POp) : List UInt8 := [o.data, 7] ++ List.replicate 62 0
def opCells (o : POp) : Array Value := #[.int .i64 o.kind, .int .i64 o.chip, .int .i64 o.block, .int .i64 o.page, u8v o.data, .bool o.short]
def opV (o : POp) : Value := .agg (opCells o)
/-- chips behind an operation -/
def Nd.done (M : Nd) (o : POp) : Nd :=
  if o.kind = 1 then (M.read o.chip o.block o.page).1
  else if o.kind = 2 then (M.program o.chip o.block o.page o.bytes o.beside).1
  else if o.kind = 3 then (M.erase o.chip o.block).1
  else if o.kind = 4 then M.boot
  else if o.kind = 5 then M.kill o.chip
  else M

/-- both in one memory, apart from each other; what may turn lies from z on -/
structure Two (z : Nat) (w : World) (La Lm : NdLay) (A B : Nd) : Prop where
  a : NdAt true w La A
  m : NdAt false w Lm B
  am : ∀ x, La.S x → Lm.tag x = .none
  ma : ∀ x, Lm.S x → La.tag x = .none
  lo : ∀ x, La.S x ∨ Lm.S x → z ≤ x
  sz : z ≤ w.heap.size
section
variable {z : Nat} {w w' : World} {La La' Lm Lm' : NdLay} {A A' B B' : Nd}
theorem Two.nb (h : Two z w La Lm A B) {x : Nat} (hx : La.S x ∨ Lm.S x) : NoByte w x := hx.elim h.a.noByte h.m.noByte
theorem Two.stepA (h : Two z w La Lm A B) (hL : SameLay La La') (hN : NdAt true w' La' A') (hO : Only La.S w w') : Two z w' La' Lm A' B :=
  ⟨hN, h.m.frame hO (fun b _ hS => h.am b hS) (fun b _ hS => h.a.noByte hS), fun x hx => h.am x (by rw [hL.S] at hx; exact hx), fun x hx => by rw [hL.tag]; exact h.ma x hx, fun x hx => h.lo x (by rw [hL.S] at hx; exact hx), Nat.le_trans h.sz hO.size⟩
theorem Two.stepB (h : Two z w La Lm A B) (hL : FromLay w Lm Lm') (hN : NdAt false w' Lm' B') (hO : Only Lm.S w w') : Two z w' La Lm' A B' := by
  have hlt : ∀ x, La.tag x ≠ .none → ¬ w.heap.size ≤ x := fun x hx hh => by have := h.a.lt x hx; omega
  refine ⟨h.a.frame hO (fun b _ hS => h.ma b hS) (fun b _ hS => h.m.noByte hS), hN, fun x hx => ?_, fun x hx => ?_, fun x hx => ?_, Nat.le_trans h.sz hO.size⟩
  · by_cases e : Lm'.tag x = .none
    · exact e
    · rcases hL.2.1 x e with h1 | h1
      · exact absurd (h.am x hx) h1
      · exact absurd h1 (hlt x (NdLay.S_ne hx))
  · rcases hL.2.2 x hx with h1 | h1
    · exact h.ma x h1
    · by_cases e : La.tag x = .none
      · exact e
      · exact absurd h1 (hlt x e)
  · rcases hx with h1 | h1
    · exact h.lo x (.inl h1)
    · rcases hL.2.2 x h1 with h2 | h2
      · exact h.lo x (.inr h2)
      · exact Nat.le_trans h.sz h2
theorem Two.below (h : Two z w La Lm A B) (hb : Below w.heap.size w w') : Two z w' La Lm A B :=
  ⟨h.a.below hb, h.m.below hb, h.am, h.ma, h.lo, Nat.le_trans h.sz hb.size⟩
end

/-- how 'done' is to end -/
def DoneEnds (z : Nat) (w : World) (La Lm : NdLay) (A B : Nd) (o : POp) (e : Ending) (w' : World) : Prop :=
  ∃ r La' Lm', e = .returned (.bool r) ∧ (A = B → r = true) ∧ La'.p = La.p ∧ Lm'.p = Lm.p ∧ Two z w' La' Lm' (A.done o) (B.done o) ∧ Only (fun x => La.S x ∨ Lm.S x) w w' ∧ ∀ x, La'.S x ∨ Lm'.S x → (La.S x ∨ Lm.S x) ∨ w.heap.size ≤ x
theorem DoneEnds.mk' {z : Nat} {w w1 w2 : World} {La Lm La' Lm' : NdLay} {A B A' B' : Nd} {o : POp} {r : Bool} (h : Two z w La Lm A B) (hA : A.done o = A') (hB : B.done o = B') (hr : A = B → r = true) (hLa : SameLay La La') (hNa : NdAt true w1 La' A') (hO1 : Only La.S w w1) (hLm : FromLay w1 Lm Lm') (hNm : NdAt false w2 Lm' B') (hO2 : Only Lm.S w1 w2) :
    DoneEnds z w La Lm A B o (.returned (.bool r)) w2 :=
  ⟨r, La', Lm', rfl, hr, hLa.p, hLm.1, hA ▸ hB ▸ (h.stepA hLa hNa hO1).stepB hLm hNm hO2, (hO1.mono fun _ _ h => .inl h).trans (hO2.mono fun _ _ h => .inr h) fun _ _ h => h,
    fun x hx => hx.elim (fun h => .inl (.inl (by rw [hLa.S] at h; exact h))) fun h => (hLm.2.2 x h).elim (fun h => .inl (.inr h)) fun h => .inr (Nat.le_trans hO1.size h)⟩
/-- .. where it began behind what is new -/
theorem DoneEnds.from {z : Nat} {w w0 w2 : World} {La Lm : NdLay} {A B : Nd} {o : POp} {e : Ending} (hb : Below w.heap.size w w0) (h : DoneEnds z w0 La Lm A B o e w2) : DoneEnds z w La Lm A B o e w2 := by
  obtain ⟨r, La', Lm', h1, h2, h3, h4, h5, h6, h7⟩ := h
  exact ⟨r, La', Lm', h1, h2, h3, h4, h5, (Only.new hb _).trans h6 fun _ _ h => h, fun x hx => (h7 x hx).imp_right fun h => Nat.le_trans hb.size h⟩

set_option maxRecDepth 100000 in
set_option maxHeartbeats 2000000 in
theorem done_other {z : Nat} {w : World} {La Lm : NdLay} {A B : Nd} (h : Two z w La Lm A B) (o : POp) (ho : o.Ok) (hk : ¬ (1 ≤ o.kind ∧ o.kind ≤ 5)) :
    Calls Try.prog 16 #[ptrV La.p, ptrV Lm.p, opV o] w (DoneEnds z w La Lm A B o) := by
  have hd : ∀ M : Nd, M.done o = M := fun M => by
    unfold Nd.done
    rw [if_neg (by omega), if_neg (by omega), if_neg (by omega), if_neg (by omega), if_neg (by omega)]
  have hal := (Below.refl w.heap.size w).alloc (Nat.le_refl _) (.cells (opCells o) 43)
  have hend := (DoneEnds.mk' (o := o) (r := true) (h.below hal) (hd A) (hd B) (fun _ => rfl) (SameLay.refl _) (h.below hal).a (Only.refl _ _) (FromLay.same (SameLay.refl _)) (h.below hal).m (Only.refl _ _)).from hal
  clear hal
  generalize DoneEnds z w La Lm A B o = Post at hend ⊢
  obtain ⟨k, c, b, p, d, s⟩ := o
  simp only [opV, opCells] at hk hend ⊢
  have k1 : (k == 1) = false := by simp; omega
  have k2 : (k == 2) = false := by simp; omega
  have k3 : (k == 3) = false := by simp; omega
  have k4 : (k == 4) = false := by simp; omega
  have k5 : (k == 5) = false := by simp; omega
  have HX := Lib.hid hend
  clear hend hk hd
  go_enter Try.func16, Try.ntmps16
  go_wp2_with fail
  exact HX.out

def OpAt (q : Nat) (k c b p : Int) (d : UInt8) (s : Bool) (w : World) : Prop := w.heap[q]? = some (.cells #[.int .i64 k, .int .i64 c, .int .i64 b, .int .i64 p, u8v d, .bool s] 43 (0, 0))
theorem OpAt.c {q : Nat} {k c b p : Int} {d : UInt8} {s : Bool} (w : World) (h : OpAt q k c b p d s w) : w.cell? ⟨q, 1, none⟩ = some (.int .i64 c) := cells_at h 1 _ rfl
theorem OpAt.b {q : Nat} {k c b p : Int} {d : UInt8} {s : Bool} (w : World) (h : OpAt q k c b p d s w) : w.cell? ⟨q, 2, none⟩ = some (.int .i64 b) := cells_at h 2 _ rfl
theorem OpAt.p {q : Nat} {k c b p : Int} {d : UInt8} {s : Bool} (w : World) (h : OpAt q k c b p d s w) : w.cell? ⟨q, 3, none⟩ = some (.int .i64 p) := cells_at h 3 _ rfl
theorem OpAt.d {q : Nat} {k c b p : Int} {d : UInt8} {s : Bool} (w : World) (h : OpAt q k c b p d s w) : w.cell? ⟨q, 4, none⟩ = some (u8v d) := cells_at h 4 _ rfl
theorem OpAt.s {q : Nat} {k c b p : Int} {d : UInt8} {s : Bool} (w : World) (h : OpAt q k c b p d s w) : w.cell? ⟨q, 5, none⟩ = some (.bool s) := cells_at h 5 _ rfl
theorem OpAt.only {q : Nat} {k c b p : Int} {d : UInt8} {s : Bool} {w w' : World} {S : Nat → Prop} (h : OpAt q k c b p d s w) (hO : Only S w w') (hn : ¬ S q) : OpAt q k c b p d s w' := hO.at h hn
theorem OpAt.drew {q : Nat} {k c b p : Int} {d : UInt8} {s : Bool} {w : World} (h : OpAt q k c b p d s w) : OpAt q k c b p d s w.drew := h
theorem Two.drew {z : Nat} {w : World} {La Lm : NdLay} {A B : Nd} (h : Two z w La Lm A B) : Two z w.drew La Lm A B := h.below (Below.refl _ _).drew

/-- what the walks of 'done' begin with -/
theorem done_start {z : Nat} {w : World} {La Lm : NdLay} {A B : Nd} (h : Two z w La Lm A B) (o : POp) :
    Two z (w.alloc (.cells (opCells o) 43)) La Lm A B ∧ (∀ w2 e, DoneEnds z (w.alloc (.cells (opCells o) 43)) La Lm A B o e w2 → DoneEnds z w La Lm A B o e w2)
    ∧ (w.alloc (.cells (opCells o) 43)).heap[w.heap.size]? = some (.cells (opCells o) 43 (0, 0)) ∧ La.tag w.heap.size = .none ∧ Lm.tag w.heap.size = .none := by
  have hal := (Below.refl w.heap.size w).alloc (Nat.le_refl _) (.cells (opCells o) 43)
  refine ⟨h.below hal, fun w2 e h2 => h2.from hal, heap_is rfl, ?_, ?_⟩
  · by_cases e : La.tag w.heap.size = .none
    · exact e
    · exact absurd (h.a.lt _ e) (by omega)
  · by_cases e : Lm.tag w.heap.size = .none
    · exact e
    · exact absurd (h.m.lt _ e) (by omega)
theorem NdLay.not_S {L : NdLay} {x : Nat} (h : L.tag x = .none) : ¬ L.S x := fun e => NdLay.S_ne e h

set_option maxRecDepth 100000 in
set_option maxHeartbeats 2000000 in
theorem done_boot {z : Nat} {w : World} {La Lm : NdLay} {A B : Nd} (h : Two z w La Lm A B) (o : POp) (ho : o.Ok) (hk : o.kind = 4) :
    Calls Try.prog 16 #[ptrV La.p, ptrV Lm.p, opV o] w (DoneEnds z w La Lm A B o) := by
  have hd : ∀ M : Nd, M.done o = M.boot := fun M => by
    unfold Nd.done
    rw [if_neg (by omega), if_neg (by omega), if_neg (by omega), if_pos hk]
  obtain ⟨h0, hfin, -, -, -⟩ := done_start h o
  have hfin2 := fun r w2 (hh : DoneEnds z (w.alloc (.cells (opCells o) 43)) La Lm A B o (.returned (.bool r)) w2) => hfin w2 _ hh
  clear hfin h
  generalize DoneEnds z w La Lm A B o = Post at hfin2 ⊢
  have HF := Lib.hid hfin2
  have HD := Lib.hid hd
  clear hfin2 hd
  obtain ⟨k, c, b, p, d, s⟩ := o
  obtain rfl : k = 4 := hk
  simp only [opV, opCells] at h0 HF ⊢
  go_enter Try.func16, Try.ntmps16
  go_wp2_with fail
  refine (boot_calls h0.a).mono ?_
  rintro e w1 ⟨rfl, hN1, hO1⟩
  have h1 := h0.stepA (SameLay.refl _) hN1 hO1
  have hT := h1.m.top
  simp only [topCells, if_false, Bool.false_eq_true] at hT
  have hlp := heap_lt hT
  (have hT_0 := cells_at hT 0 _ rfl; have hT_1 := cells_at hT 1 _ rfl; have hT_2 := cells_at hT 2 _ rfl; have hT_3 := cells_at hT 3 _ rfl; have hT_4 := cells_at hT 4 _ rfl; have hT_5 := cells_at hT 5 _ rfl; have hT_6 := cells_at hT 6 _ rfl; have hT_7 := cells_at hT 7 _ rfl; have hT_8 := cells_at hT 8 _ rfl)
  have hf8 := froz_at hT 8
  have hP := h1.m.setOff false
  have hO2 := (Only.of_set w1 ⟨Lm.p, 8, none⟩ (.bool false)).mono (S' := Lm.S) (fun b _ e => by subst e; exact h1.m.Sp)
  have HX := Lib.hid (HF.out true _ (DoneEnds.mk' (r := true) h0 (HD.out A) (HD.out B) (fun _ => rfl) (SameLay.refl _) hN1 hO1 (FromLay.same (SameLay.refl _)) hP hO2))
  clear hP hO2 h0 h1 hT
  go_wp2_with fail
  exact HX.out

set_option maxRecDepth 100000 in
set_option maxHeartbeats 2000000 in
theorem done_erase {z : Nat} {w : World} {La Lm : NdLay} {A B : Nd} (h : Two z w La Lm A B) (o : POp) (ho : o.Ok) (hk : o.kind = 3) (hA : A.ops < 1000000) (hB : B.ops < 1000000) :
    Calls Try.prog 16 #[ptrV La.p, ptrV Lm.p, opV o] w (DoneEnds z w La Lm A B o) := by
  have hd : ∀ M : Nd, M.done o = (M.erase o.chip o.block).1 := fun M => by
    unfold Nd.done
    rw [if_neg (by omega), if_neg (by omega), if_pos hk]
  obtain ⟨h0, hfin, hQ, hq1, hq2⟩ := done_start h o
  have hfin2 := fun r w2 (hh : DoneEnds z (w.alloc (.cells (opCells o) 43)) La Lm A B o (.returned (.bool r)) w2) => hfin w2 _ hh
  clear hfin h
  generalize DoneEnds z w La Lm A B o = Post at hfin2 ⊢
  have HF := Lib.hid hfin2
  have HD := Lib.hid hd
  clear hfin2 hd
  obtain ⟨k, c, b, p, d, s⟩ := o
  obtain rfl : k = 3 := hk
  simp only [opV, opCells] at h0 HF hQ HD ⊢
  obtain ⟨hi0, hi1, hi2, hi3⟩ := ho
  simp only at hi1 hi2
  generalize hw0 : w.alloc (.cells #[.int .i64 3, .int .i64 c, .int .i64 b, .int .i64 p, u8v d, .bool s] 43) = w0 at h0 HF hQ
  obtain ⟨q, hq⟩ : ∃ q, q = w.heap.size := ⟨_, rfl⟩
  have HW := Lib.hid hw0
  clear hw0
  go_enter Try.func16, Try.ntmps16
  go_wp2_with fail
  rw [HW.out, ← hq]
  rw [← hq] at hQ hq1 hq2
  clear hq HW
  have hQ : OpAt q 3 c b p d s w0 := hQ
  have s1 := OpAt.c (q := q) (k := 3) (c := c) (b := b) (p := p) (d := d) (s := s)
  have s2 := OpAt.b (q := q) (k := 3) (c := c) (b := b) (p := p) (d := d) (s := s)
  (refine wp_region_mix [0, 1, 2, 3, 4, 6, 7, 8, 9, 10, 5, 11, 12, 13] [(true, true), (true, true), (true, false), (true, true), (true, false), (true, true), (true, true), (true, false), (true, true), (true, false), (false, true), (false, false), (true, true), (true, true)] [0, 0, 2, 0, 8, 31, 0, 0, 128, 0, 512, 2047, 4095, 8191] (OpAt q 3 c b p d s) (by kernel_rfl) (by kernel_rfl) ?_ ?_; rotate_left; simp only [pickL, List.map_cons, List.map_nil, List.getD_cons_succ, List.getD_cons_zero])
  rotate_left
  focus exact hQ
  (repeat (first | (refine mix_pure (fun hne K hK => ?_); go_simp; refine hK _ ?_; clear hK K hne) | (refine mix_load ?_ (fun K hK => ?_); (focus (first | rfl | (go_simp; done))); apply Exists.intro; apply And.intro; (focus (intro w' hC; go_simp; exact rfl)); go_simp; refine hK _ ?_; clear hK K) | (refine mix_skip ?_ (fun K hK => ?_); (focus (first | rfl | (go_simp; done))); go_simp; refine hK _ ?_; clear hK K)))
  (refine mix_one (by first | rfl | (go_simp; done)) (fun R hR hX => ?_))
  go_wp2_with fail
  refine (nerase_calls h0.drew.a c b hi1 hi2 hA).mono ?_
  rintro e w1 ⟨La', hL, rfl, hN1, hO1⟩
  have hO1' := (Only.of_drew La.S w0).trans hO1 fun _ _ h => h
  have h1 := h0.stepA hL hN1 hO1'
  have hQ1 := hQ.only hO1' (NdLay.not_S hq1)
  go_wp2_with fail
  refine hR _ _ rfl ⟨_, hQ1, fun _ => rfl, ?_⟩
  clear hR hX R
  (repeat (first | (refine mix_pure (fun hne K hK => ?_); go_simp; refine hK _ ?_; clear hK K hne) | (refine mix_load ?_ (fun K hK => ?_); (focus (first | rfl | (go_simp; done))); apply Exists.intro; apply And.intro; (focus (intro w' hC; go_simp; exact rfl)); go_simp; refine hK _ ?_; clear hK K) | (refine mix_skip ?_ (fun K hK => ?_); (focus (first | rfl | (go_simp; done))); go_simp; refine hK _ ?_; clear hK K)))
  (refine mix_one (by first | rfl | (go_simp; done)) (fun R hR hX => ?_))
  go_wp2_with fail
  refine (rerase_calls h1.m c b hi1 hi2 hB).mono ?_
  rintro e w2 ⟨Lm', hF, rfl, hN2, hO2⟩
  have hQ2 := hQ1.only hO2 (NdLay.not_S hq2)
  have HX := Lib.hid (fun (r : Bool) (hr : A = B → r = true) => HF.out r _ (DoneEnds.mk' h0 (HD.out A) (HD.out B) hr hL hN1 hO1' hF hN2 hO2))
  clear h0 h1 hN1 hN2 hO1 hO1' hO2 hL hF hQ hQ1
  go_wp2_with fail
  refine hR _ _ rfl ⟨_, hQ2, fun _ => rfl, ?_⟩
  clear hR hX R
  (repeat (first | (refine mix_pure (fun hne K hK => ?_); go_simp; refine hK _ ?_; clear hK K hne) | (refine mix_load ?_ (fun K hK => ?_); (focus (first | rfl | (go_simp; done))); apply Exists.intro; apply And.intro; (focus (intro w' hC; go_simp; exact rfl)); go_simp; refine hK _ ?_; clear hK K) | (refine mix_skip ?_ (fun K hK => ?_); (focus (first | rfl | (go_simp; done))); go_simp; refine hK _ ?_; clear hK K)))
  refine mix_done ?_
  go_wp2_with fail
  exact HX.out _ (fun hh => by rw [hh]; simp)

set_option maxRecDepth 100000 in
set_option maxHeartbeats 2000000 in
theorem done_kill {z : Nat} {w : World} {La Lm : NdLay} {A B : Nd} (h : Two z w La Lm A B) (o : POp) (ho : o.Ok) (hk : o.kind = 5) :
    Calls Try.prog 16 #[ptrV La.p, ptrV Lm.p, opV o] w (DoneEnds z w La Lm A B o) := by
  have hd : ∀ M : Nd, M.done o = M.kill o.chip := fun M => by
    unfold Nd.done
    rw [if_neg (by omega), if_neg (by omega), if_neg (by omega), if_neg (by omega), if_pos hk]
  obtain ⟨h0, hfin, hQ, hq1, hq2⟩ := done_start h o
  have hfin2 := fun r w2 (hh : DoneEnds z (w.alloc (.cells (opCells o) 43)) La Lm A B o (.returned (.bool r)) w2) => hfin w2 _ hh
  clear hfin h
  generalize DoneEnds z w La Lm A B o = Post at hfin2 ⊢
  have HF := Lib.hid hfin2
  have HD := Lib.hid hd
  clear hfin2 hd
  obtain ⟨k, c, b, p, d, s⟩ := o
  obtain rfl : k = 5 := hk
  simp only [opV, opCells] at h0 HF hQ HD ⊢
  obtain ⟨hi0, hi1, hi2, hi3⟩ := ho
  simp only at hi1
  generalize hw0 : w.alloc (.cells #[.int .i64 5, .int .i64 c, .int .i64 b, .int .i64 p, u8v d, .bool s] 43) = w0 at h0 HF hQ
  obtain ⟨q, hq⟩ : ∃ q, q = w.heap.size := ⟨_, rfl⟩
  have HW := Lib.hid hw0
  clear hw0
  go_enter Try.func16, Try.ntmps16
  go_wp2_with fail
  rw [HW.out, ← hq]
  rw [← hq] at hQ hq1 hq2
  clear hq HW
  have hQ : OpAt q 5 c b p d s w0 := hQ
  refine (kill_calls h0.a c hi1).mono ?_
  rintro e w1 ⟨rfl, hN1, hO1⟩
  have h1 := h0.stepA (SameLay.refl _) hN1 hO1
  have hQ1 := hQ.only hO1 (NdLay.not_S hq1)
  have s1 := OpAt.c w1 hQ1
  have hlq := cell_lt s1
  have hT := h1.m.top
  simp only [topCells, if_false, Bool.false_eq_true] at hT
  have hlp := heap_lt hT
  have t0 : w1.cell? ⟨Lm.p, 0, none⟩ = some (.int .i64 B.mem) := cells_at hT 0 _ rfl
  have t5 : w1.cell? ⟨Lm.p, 5, none⟩ = some (.slice (some ⟨Lm.dd, 0, none⟩) (B.mem + 1) Lm.dc) := cells_at hT 5 _ rfl
  by_cases hc : 0 ≤ c ∧ c ≤ B.mem
  · obtain ⟨hc0, hc1⟩ := hc
    obtain ⟨n, rfl⟩ := Int.eq_ofNat_of_zero_le hc0
    have hn : n ≤ B.mem := by omega
    have hP := h1.m.setGone hn true
    have hO2 := (Only.of_set w1 ⟨Lm.dd, n, none⟩ (.bool true)).mono (S' := Lm.S) (fun b _ e => by subst e; exact h1.m.Sd)
    have hcell := h1.m.dead.cell (show n < B.mem + 1 by omega)
    have hfr := h1.m.dead.froz n
    have hld := cell_lt hcell
    have hk : B.kill (n : Int) = { B with gone := upd1 B.gone n true } := by
      unfold Nd.kill; rw [if_pos ⟨hc0, hc1⟩]; rfl
    have HX := Lib.hid (fun w2 (hP : NdAt false w2 Lm { B with gone := upd1 B.gone n true }) (hO2 : Only Lm.S w1 w2) => HF.out true w2 (DoneEnds.mk' h0 (HD.out A) ((HD.out B).trans hk) (fun _ => rfl) (SameLay.refl _) hN1 hO1 (FromLay.same (SameLay.refl _)) hP hO2))
    have HP := Lib.hid (⟨hP, hO2⟩ : _ ∧ _)
    have hb2 : decide ((n : Int) ≤ (B.mem : Int)) = true := by simp; omega
    have hb3 : (n : Int) < (B.mem : Int) + 1 := by omega
    clear hP hO2 hk h0 h1 hT hN1 hO1 hQ hQ1
    go_wp2_with fail
    (refine wp_region_mix [0, 1, 2, 3, 4, 5, 6, 7, 8, 9, 10, 11] [(true, true), (true, false), (true, true), (true, true), (true, true), (true, false), (true, true), (true, true), (true, true), (true, false), (true, true), (true, true)] [0, 1, 3, 7, 15, 31, 15, 79, 207, 463, 1023, 2047] _ (by kernel_rfl) (by kernel_rfl) (rfl : _ = _) ?_; simp only [pickL, List.map_cons, List.map_nil, List.getD_cons_succ, List.getD_cons_zero])
    (repeat (first | (refine mix_pure (fun hne K hK => ?_); go_simp; refine hK _ ?_; clear hK K hne) | (refine mix_load ?_ (fun K hK => ?_); (focus (first | rfl | (go_simp; done))); go_simp; refine hK _ ?_; clear hK K) | (refine mix_skip ?_ (fun K hK => ?_); (focus (first | rfl | (go_simp; done))); go_simp; refine hK _ ?_; clear hK K)))
    refine mix_done ?_
    go_wp2_with fail
    (refine wp_region_mix [0, 1, 2, 3, 4, 5, 6, 7] [(true, true), (true, true), (true, true), (true, false), (true, true), (true, false), (true, true), (false, false)] [0, 1, 3, 7, 0, 16, 63, 127] _ (by kernel_rfl) (by kernel_rfl) (rfl : _ = _) ?_; simp only [pickL, List.map_cons, List.map_nil, List.getD_cons_succ, List.getD_cons_zero])
    (repeat (first | (refine mix_pure (fun hne K hK => ?_); go_simp; refine hK _ ?_; clear hK K hne) | (refine mix_load ?_ (fun K hK => ?_); (focus (first | rfl | (go_simp; done))); go_simp; refine hK _ ?_; clear hK K) | (refine mix_skip ?_ (fun K hK => ?_); (focus (first | rfl | (go_simp; done))); go_simp; refine hK _ ?_; clear hK K)))
    (refine mix_one (by first | rfl | (go_simp; done)) (fun R hR hX => ?_))
    go_wp2_with fail
    ((try simp only [wpList]); refine hR _ _ rfl ⟨fun w' => w' = _, rfl, (fun h => by cases h), ?_⟩; clear hR hX R)
    refine mix_done ?_
    go_wp2_with fail
    exact HX.out _ HP.out.1.drew.drew HP.out.2.drew.drew
  · have hk : B.kill c = B := if_neg hc
    have HX := Lib.hid (HF.out true _ (DoneEnds.mk' h0 (HD.out A) ((HD.out B).trans hk) (fun _ => rfl) (SameLay.refl _) hN1 hO1 (FromLay.same (SameLay.refl _)) h1.m.drew (Only.of_drew _ _)))
    by_cases hc0 : 0 ≤ c
    · have hb1 : decide (0 ≤ c) = true := by simp [hc0]
      have hb2 : decide (c ≤ (B.mem : Int)) = false := by simp; omega
      clear hk h0 h1 hT hN1 hO1 hQ hQ1
      go_wp2_with fail
      (refine wp_region_mix [0, 1, 2, 3, 4, 5, 6, 7, 8, 9, 10, 11] [(true, true), (true, false), (true, true), (true, true), (true, true), (true, false), (true, true), (true, true), (true, true), (true, false), (true, true), (true, true)] [0, 1, 3, 7, 15, 31, 15, 79, 207, 463, 1023, 2047] _ (by kernel_rfl) (by kernel_rfl) (rfl : _ = _) ?_; simp only [pickL, List.map_cons, List.map_nil, List.getD_cons_succ, List.getD_cons_zero])
      (repeat (first | (refine mix_pure (fun hne K hK => ?_); go_simp; refine hK _ ?_; clear hK K hne) | (refine mix_load ?_ (fun K hK => ?_); (focus (first | rfl | (go_simp; done))); go_simp; refine hK _ ?_; clear hK K) | (refine mix_skip ?_ (fun K hK => ?_); (focus (first | rfl | (go_simp; done))); go_simp; refine hK _ ?_; clear hK K)))
      refine mix_done ?_
      go_wp2_with fail
      exact HX.out
    · have hb1 : decide (0 ≤ c) = false := by simp; omega
      clear hk h0 h1 hT hN1 hO1 hQ hQ1
      go_wp2_with fail
      (refine wp_region_mix [0, 1, 2, 3, 4, 5, 6, 7, 8, 9, 10, 11] [(true, true), (true, false), (true, true), (true, true), (true, true), (true, false), (true, true), (true, true), (true, true), (true, false), (true, true), (true, true)] [0, 1, 3, 7, 15, 31, 15, 79, 207, 463, 1023, 2047] _ (by kernel_rfl) (by kernel_rfl) (rfl : _ = _) ?_; simp only [pickL, List.map_cons, List.map_nil, List.getD_cons_succ, List.getD_cons_zero])
      (repeat (first | (refine mix_pure (fun hne K hK => ?_); go_simp; refine hK _ ?_; clear hK K hne) | (refine mix_load ?_ (fun K hK => ?_); (focus (first | rfl | (go_simp; done))); go_simp; refine hK _ ?_; clear hK K) | (refine mix_skip ?_ (fun K hK => ?_); (focus (first | rfl | (go_simp; done))); go_simp; refine hK _ ?_; clear hK K)))
      refine mix_done ?_
      go_wp2_with fail
      exact HX.out
theorem read_len {M : Nd} (h : M.Ok) (c b p : Int) : (M.read c b p).2.1.length ≤ M.siz + 64 := by
  obtain ⟨s1, s2, s3, s4, s5, s6, s7, s8, s9⟩ := begin_shape M c b
  have hpg := h.page
  unfold Nd.read
  generalize M.begin c b = R at *
  obtain ⟨M1, x, e⟩ := R
  simp only at *
  split
  · simp
  · split
    · simp
    · split
      · simp
      · split
        · rw [← s4]; simp [full]
        · rw [s5]
          rcases hpg c.toNat b.toNat p.toNat with h1 | h1 <;> rw [h1] <;> simp
theorem strOf_append (a b : List UInt8) : strOf a ++ strOf b = strOf (a ++ b) := by
  apply ByteArray.ext
  rw [ByteArray.data_append]
  simp [strOf]
theorem strOf_size (a : List UInt8) : (strOf a).size = a.length := by
  show (strOf a).data.size = a.length
  simp [strOf]

set_option maxRecDepth 100000 in
set_option maxHeartbeats 2000000 in
theorem done_read {z : Nat} {w : World} {La Lm : NdLay} {A B : Nd} (h : Two z w La Lm A B) (o : POp) (ho : o.Ok) (hk : o.kind = 1) (hA : A.ops < 1000000) (hB : B.ops < 1000000) :
    Calls Try.prog 16 #[ptrV La.p, ptrV Lm.p, opV o] w (DoneEnds z w La Lm A B o) := by
  have hd : ∀ M : Nd, M.done o = (M.read o.chip o.block o.page).1 := fun M => by
    unfold Nd.done
    rw [if_pos hk]
  obtain ⟨h0, hfin, hQ, hq1, hq2⟩ := done_start h o
  have hfin2 := fun r w2 (hh : DoneEnds z (w.alloc (.cells (opCells o) 43)) La Lm A B o (.returned (.bool r)) w2) => hfin w2 _ hh
  clear hfin h
  generalize DoneEnds z w La Lm A B o = Post at hfin2 ⊢
  have HF := Lib.hid hfin2
  have HD := Lib.hid hd
  clear hfin2 hd
  obtain ⟨k, c, b, p, d, s⟩ := o
  obtain rfl : k = 1 := hk
  simp only [opV, opCells] at h0 HF hQ HD ⊢
  obtain ⟨hi0, hi1, hi2, hi3⟩ := ho
  simp only at hi1 hi2 hi3
  generalize hw0 : w.alloc (.cells #[.int .i64 1, .int .i64 c, .int .i64 b, .int .i64 p, u8v d, .bool s] 43) = w0 at h0 HF hQ
  obtain ⟨q, hq⟩ : ∃ q, q = w.heap.size := ⟨_, rfl⟩
  have HW := Lib.hid hw0
  clear hw0
  have hQ : OpAt q 1 c b p d s w0 := by rw [hq]; exact hQ
  have s1 := OpAt.c w0 hQ
  have s2 := OpAt.b w0 hQ
  have s3 := OpAt.p w0 hQ
  rw [hq] at s1 s2 s3
  rw [← HW.out] at s1 s2 s3
  go_enter Try.func16, Try.ntmps16
  go_wp2_with fail
  rw [HW.out, ← hq]
  rw [← hq] at hq1 hq2
  clear hq HW s1 s2 s3
  refine (nread_calls h0.a c b p hi1 hi2 hi3 hA).mono ?_
  rintro e w1 ⟨v1, v2, rfl, hv1, hv2, hN1, hO1⟩
  have h1 := h0.stepA (SameLay.refl _) hN1 hO1
  have hQ1 := hQ.only hO1 (NdLay.not_S hq1)
  have s1 := OpAt.c w1 hQ1
  have s2 := OpAt.b w1 hQ1
  have s3 := OpAt.p w1 hQ1
  have hlq := cell_lt s1
  have HR := Lib.hid (rread_calls h1.m c b p hi1 hi2 hi3 hB)
  have HA := Lib.hid (⟨hv1, hv2, hN1, hO1, h0, h1⟩ : _ ∧ _ ∧ _ ∧ _ ∧ _ ∧ _)
  clear h0 h1 hN1 hO1 hv1 hv2
  go_wp2_with fail
  refine HR.out.mono ?_
  rintro e w2 ⟨v3, rfl, hv3, hN2, hO2⟩
  obtain ⟨hv1, hv2, hN1, hO1, h0, h1⟩ := HA.out
  have hv1 := hv1.only hO2 (fun x _ hx => h1.m.noByte hx)
  have hv2 := hv2.only hO2 (fun x _ hx => h1.m.noByte hx)
  have r1 := run_str hv1
  have r2 := run_str hv2
  have r3 := run_str hv3
  have HX := Lib.hid (fun (r : Bool) (hr : A = B → r = true) => HF.out r _ (DoneEnds.mk' h0 (HD.out A) (HD.out B) hr (SameLay.refl _) hN1 hO1 (FromLay.same (SameLay.refl _)) hN2 hO2))
  have hl1 := read_len h0.a.ok c b p
  have hl2 := h0.a.ok.siz
  have hlen : ¬ 9223372036854775807 < (strOf (List.take A.siz (A.read c b p).2.1)).size + (strOf (List.drop A.siz (A.read c b p).2.1)).size := by rw [strOf_size, strOf_size, List.length_take, List.length_drop]; omega
  clear h0 h1 hN1 hN2 hO1 hO2 hQ hQ1 hv1 hv2 hv3 HR HA s1 s2 s3 hl1 hl2
  by_cases he : (A.read c b p).2.2 = (B.read c b p).2.2
  · have he' : (((A.read c b p).2.2 : Int) == ((B.read c b p).2.2 : Int)) = true := by simp [he]
    go_wp2_with fail
    exact HX.out _ (fun hh => by subst hh; rw [strOf_append, List.take_append_drop]; simp)
  · have he' : (((A.read c b p).2.2 : Int) == ((B.read c b p).2.2 : Int)) = false := by simp; omega
    go_wp2_with fail
    exact HX.out _ (fun hh => by subst hh; exact absurd rfl he)
end Go.Proofs.Ytphnjiokihbhnaa
