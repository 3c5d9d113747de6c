/- laid: a table is laid and joined; one without a reserve isn't taken from. -/
--only r2
import Derived.Test.YtogejjbclimjjaaTabJoin
import Derived.Test.YtogejjbclimjjaaTabSame
import Derived.Deep.DeepCutAuto
namespace Go.Proofs.Ytogejjbclimjjaa
set_option linter.unusedVariables false
set_option linter.unusedSimpArgs false
open Go.RowKit

theorem OwnPage.at {w : World} {B : Nat} {x : Value} {d o : List UInt8} (h : OwnPage w B x d o) : ∃ b cap pv ov, x = .slice (some ⟨b, 0, none⟩) 1 cap ∧ b < w.heap.size ∧ B ≤ b ∧ 1 ≤ cap ∧ cap ≤ maxLen ∧ (∀ j u, ([pv, ov] : List Value)[j]? = some u → w.cell? ⟨b, j, none⟩ = some u) ∧ RB w pv d ∧ RB w ov o := by
  obtain ⟨pv, ov, hown, h1, h2⟩ := h
  have hin := hown
  rcases hown.2 with ⟨-, h⟩ | ⟨g, cap, cur, rfl, hg, hgg, hc, hm, hcs, htk⟩
  · cases h
  · refine ⟨g, cap, pv, ov, rfl, heap_lt hgg, hg, hc, hm, fun j u hj => ?_, h1, h2⟩
    rw [← htk, List.getElem?_take] at hj
    split at hj
    · exact cells_at hgg j u (by rw [← Array.getElem?_toList]; exact hj)
    · cases hj
theorem OwnPage.pg {w : World} {B : Nat} {x : Value} {d o : List UInt8} (h : OwnPage w B x d o) : PgAt w x d o := by
  obtain ⟨b, cap, pv, ov, rfl, -, -, -, -, hc, h1, h2⟩ := h.at
  exact ⟨b, cap, 1, pv, ov, rfl, Nat.le_refl _, by decide, hc 0 _ rfl, hc 1 _ rfl, h1, h2⟩
theorem OwnPage.below {w w' : World} {B : Nat} {x : Value} {d o : List UInt8} (h : OwnPage w B x d o) (hb : Below w.heap.size w w') : OwnPage w' B x d o := by
  obtain ⟨pv, ov, hown, h1, h2⟩ := h
  exact ⟨pv, ov, own_only hown (Only.new hb fun _ => False) (fun _ _ => id), h1.below hb, h2.below hb⟩

set_option maxRecDepth 100000 in
set_option maxHeartbeats 1000000 in
theorem lpages_calls (x : Value) (d o : List UInt8) (B : Nat) (w : World) (hx : OwnPage w B x d o) :
    Calls Try.prog 61 #[x] w fun e w' => ∃ y, e = .returned y ∧ PgAt w' y d o ∧ Below w.heap.size w w' := by
  obtain ⟨ig, hig, hz0, hz1, hz2⟩ := info_parts infoPg
  obtain ⟨b, cap, pv, ov, rfl, hlb, hB, hc, hm, hcell, h1, h2⟩ := hx.at
  obtain ⟨a1, k1, rfl, -, -⟩ := h1.form
  obtain ⟨a2, k2, rfl, -, -⟩ := h2.form
  go_enter Try.func61, Try.ntmps61
  have hown0 : (w.alloc (.cells #[] 79)).ownsRow w.heap.size 79 2 (.slice (some ⟨w.heap.size, 0, none⟩) 0 0) 0 [] := ⟨rfl, .inr ⟨_, 0, #[], rfl, Nat.le_refl _, heap_is rfl, Nat.le_refl _, by decide, rfl, rfl⟩⟩
  have hal := (Below.refl w.heap.size w).alloc (Nat.le_refl _) (.cells #[] 79)
  have HX := Lib.hid (⟨hcell, h1, h2, hal, hown0⟩ : _ ∧ _ ∧ _ ∧ _ ∧ _)
  clear hcell h1 h2 hal hown0 hx
  go_wp2_with (at_builtin; refine wpList_append_own _ rfl _ _ 72 rfl w.heap.size 79 ig (.agg #[.slice none 0 0, .slice none 0 0]) 2 48 Try.underlying72 hig hz0 hz1 hz2 rfl (by decide) (.slice (some ⟨w.heap.size, 0, none⟩) 0 0) 0 [] rfl HX.out.2.2.2.2 ⟨b, 0, none⟩ 1 cap [.slice a1 d.length k1, .slice a2 o.length k2] rfl rfl ?c1 ?c2 ?c3 ?c4 ?c5 ?_)
  case c1 =>
    intro j u hu
    rw [add_plain, Nat.zero_add]
    exact below_cell HX.out.2.2.2.1 hlb (HX.out.1 j u hu)
  case c2 => intro u hu; simp at hu; rcases hu with rfl | rfl <;> rfl
  case c3 => unfold maxLen; omega
  case c4 => omega
  case c5 => simp
  intro v' w10 hown10 hg10 _
  have hb10 : Below w.heap.size w w10 := below_pushed HX.out.2.2.2.1 HX.out.2.2.2.2 hg10 (by simp) (Nat.le_refl _)
  (try simp only [Nat.zero_add, List.nil_append] at hown10)
  have hop : OwnPage w10 w.heap.size v' d o := ⟨_, _, hown10, HX.out.2.1.below hb10, HX.out.2.2.1.below hb10⟩
  have HF := Lib.hid (⟨hop.pg, hb10⟩ : _ ∧ _)
  clear hown10 hg10 hb10 hop
  go_wp2_with fail
  go_ret
  exact ⟨_, rfl, HF.out⟩

/-- the blocks in which a table's lists lie -/
def SB (T : Tb) (vp vs : Value) (b : Nat) : Prop := (0 < T.place.length ∧ ∃ o n c, vp = .slice (some ⟨b, o, none⟩) n c) ∨ (0 < T.spare.length ∧ ∃ o n c, vs = .slice (some ⟨b, o, none⟩) n c)
theorem TabAt.sb {w : World} {T : Tb} {vp vs : Value} (h : TabAt w T vp vs) : ∀ b, SB T vp vs b → b < w.heap.size := fun b hb => by
  rcases hb with ⟨h1, o, n, c, e⟩ | ⟨h1, o, n, c, e⟩
  · exact RV.lt h.p (by simpa using h1) b o n c e
  · exact RV.lt h.s (by simpa using h1) b o n c e
theorem TabAt.away {S : Nat → Prop} {w w' : World} {T : Tb} {vp vs : Value} (h : TabAt w T vp vs) (hO : Only S w w') (hS : ∀ b, SB T vp vs b → ¬ S b) : TabAt w' T vp vs :=
  ⟨RV.away h.p (fun h1 b o n c e => hS b (.inl ⟨by simpa using h1, o, n, c, e⟩)) hO, RV.away h.s (fun h1 b o n c e => hS b (.inr ⟨by simpa using h1, o, n, c, e⟩)) hO, h.seq⟩
theorem SB.fresh {B : Nat} {T : Tb} {vp vs : Value} (h1 : Fresh B vp) (h2 : Fresh B vs) : ∀ b, SB T vp vs b → B ≤ b := fun b hb => by
  rcases hb with ⟨-, o, n, c, e⟩ | ⟨-, o, n, c, e⟩
  · exact h1 b o n c e
  · exact h2 b o n c e
theorem only5 (w1 : World) (b : Nat) (u0 u1 u2 u3 u4 : Value) : Only (fun x => x = b) w1 (((((w1.setCell ⟨b, 0, none⟩ u0).setCell ⟨b, 1, none⟩ u1).setCell ⟨b, 2, none⟩ u2).setCell ⟨b, 3, none⟩ u3).setCell ⟨b, 4, none⟩ u4) :=
  ((((Only.of_set w1 ⟨b, 0, none⟩ u0).set ⟨b, 1, none⟩ u1 fun _ => rfl).set ⟨b, 2, none⟩ u2 fun _ => rfl).set ⟨b, 3, none⟩ u3 fun _ => rfl).set ⟨b, 4, none⟩ u4 fun _ => rfl

set_option maxRecDepth 100000 in
set_option maxHeartbeats 1000000 in
theorem laid_calls (w : World) : Calls Try.prog 21 #[] w fun e w' => e = .returned (.bool true) ∧ Below w.heap.size w w' := by
  obtain ⟨T, hT⟩ : ∃ T, T = plainT 16 3 0 9 := ⟨_, rfl⟩
  have hok : T.Ok 16 := by rw [hT]; exact plain_ok ⟨by omega, by omega⟩ (by omega)
  have hsp : T.spare.length = 0 := by rw [hT]; rfl
  have hpl : T.place.length = 11 := by rw [hT]; exact plainL_length _ _ _ _
  have hsq : T.seq < 4294967296 := by rw [hT]; decide
  have hg : geoOk (3 : Nat) (16 : Nat) (4 : Nat) (256 : Nat) := by unfold geoOk; decide
  obtain ⟨k, hk, hk0, hsh⟩ := RI.shape2 0 w
  obtain rfl := hk0 rfl
  rw [show geoV ((3 : Nat) : Int) ((16 + 0 : Nat) : Int) ((4 : Nat) : Int) ((256 : Nat) : Int) = .agg #[.int .i64 3, .int .i64 16, .int .i64 4, .int .i64 256] from rfl] at hsh
  have HSH := Lib.hid hsh
  have HTT := Lib.hid (⟨hT, hok, hsp, hpl, hsq, hg⟩ : _ ∧ _ ∧ _ ∧ _ ∧ _ ∧ _)
  clear hsh hT hok hsp hpl hsq hg hk hk0
  go_enter Try.func21, Try.ntmps21
  go_wp2_with fail
  refine HSH.out.mono ?_
  rintro e w1 ⟨rfl, hb1⟩
  obtain ⟨q, hq⟩ : ∃ q, q = w1.heap.size := ⟨_, rfl⟩
  obtain ⟨w2, hw2⟩ : ∃ w2, w2 = w1.alloc (.cells #[.int .i64 3, .int .i64 16, .int .i64 4, .int .i64 256] 28) := ⟨_, rfl⟩
  have hb2 : Below w.heap.size w w2 := by rw [hw2]; exact hb1.alloc hb1.size _
  have hG : w2.heap[q]? = some (.cells #[.int .i64 3, .int .i64 16, .int .i64 4, .int .i64 256] 28 (0, 0)) := by rw [hw2]; exact heap_is hq
  have g0 := cells_at hG 0 _ rfl
  have g1 := cells_at hG 1 _ rfl
  have g2 := cells_at hG 2 _ rfl
  have g3 := cells_at hG 3 _ rfl
  simp only [List.getElem_toArray, List.getElem_cons_succ, List.getElem_cons_zero] at g0 g1 g2 g3
  have hlg := heap_lt hG
  have hpc := plain_calls 3 16 4 256 3 0 3 0 9 w2 ⟨by omega, by omega⟩ (by kernel_rfl) (by kernel_rfl) (by omega) (by omega) (by omega)
  rw [← HTT.out.1] at hpc
  rw [show geoV ((3 : Nat) : Int) ((16 : Nat) : Int) ((4 : Nat) : Int) ((256 : Nat) : Int) = .agg #[.int .i64 3, .int .i64 16, .int .i64 4, .int .i64 256] from rfl, show ((9 : Nat) : Int) = 9 from rfl] at hpc
  have HPC := Lib.hid hpc
  have H2 := Lib.hid (⟨hb2, hG⟩ : _ ∧ _)
  have HW2 := Lib.hid hw2
  clear hb1 hb2 hG hpc hw2 HSH
  go_upto_region 2 with (fail)
  rw [← hq, ← HW2.out]
  clear hq HW2
  go_wp2_with fail
  refine HPC.out.mono ?_
  rintro e w3 ⟨vp, vs, rfl, hta, hb3⟩
  obtain ⟨ap, kp, rfl, hp1, hp2⟩ := hta.p.form
  obtain ⟨ax, kx, rfl, hx1, hx2⟩ := hta.s.form
  obtain ⟨r, hr⟩ : ∃ r, r = w3.heap.size := ⟨_, rfl⟩
  obtain ⟨w4, hw4⟩ : ∃ w4, w4 = w3.alloc (.cells (T.cells (.slice ap T.place.length kp) (.slice ax T.spare.length kx)) 57) := ⟨_, rfl⟩
  have hb24 : Below w2.heap.size w2 w4 := by rw [hw4]; exact hb3.alloc hb3.size _
  have hR : w4.heap[r]? = some (.cells (T.cells (.slice ap T.place.length kp) (.slice ax T.spare.length kx)) 57 (0, 0)) := by rw [hw4]; exact heap_is hr
  have hta4 := hta.below (by rw [hw4]; exact (Below.refl _ _).alloc (Nat.le_refl _) _ : Below w3.heap.size w3 w4)
  have hG4 := heap_keep hb24 H2.out.2
  have g0 := cells_at hG4 0 _ rfl
  have g1 := cells_at hG4 1 _ rfl
  have g2 := cells_at hG4 2 _ rfl
  have g3 := cells_at hG4 3 _ rfl
  have r0 := cells_at hR 0 _ rfl
  have r1 := cells_at hR 1 _ rfl
  have r2 := cells_at hR 2 _ rfl
  have r3 := cells_at hR 3 _ rfl
  have r4 := cells_at hR 4 _ rfl
  simp only [List.getElem_toArray, List.getElem_cons_succ, List.getElem_cons_zero] at g0 g1 g2 g3 r0 r1 r2 r3 r4
  have hlg := heap_lt hG4
  have hlr := heap_lt hR
  have hpg := pages_calls 3 16 4 256 T _ _ w4 hta4 HTT.out.2.2.2.2.2 (by rw [HTT.out.2.2.2.1]; omega) (by rw [HTT.out.2.2.1]; omega)
  rw [show geoV ((3 : Nat) : Int) ((16 : Nat) : Int) ((4 : Nat) : Int) ((256 : Nat) : Int) = .agg #[.int .i64 3, .int .i64 16, .int .i64 4, .int .i64 256] from rfl] at hpg
  unfold tabV Tb.cells at hpg
  have HPG := Lib.hid hpg
  have H4 := Lib.hid (⟨H2.out.1.trans (hb24.mono H2.out.1.size), hG4, hR, hta4⟩ : _ ∧ _ ∧ _ ∧ _)
  have HW4 := Lib.hid hw4
  clear hta hb3 hb24 hR hta4 hG4 hpg hw4 H2 HPC hp1 hp2 hx1 hx2
  unfold tabV
  unfold Tb.cells at HW4 H4 ⊢
  go_upto_region 3 with (fail)
  rw [← hr, ← HW4.out]
  clear hr HW4
  go_wp2_with fail
  refine HPG.out.mono ?_
  rintro e w5 ⟨hb5, hcase⟩
  rcases hcase with ⟨-, x5, rfl, hop, -⟩ | ⟨hno, -⟩
  rotate_left
  · exact absurd HTT.out.2.1 hno
  obtain ⟨b5, c5, pv5, ov5, rfl, -, -, -, -, -, -, -⟩ := hop.at
  have hG5 := heap_keep hb5 H4.out.2.1
  have hR5 := heap_keep hb5 H4.out.2.2.1
  have hta5 := H4.out.2.2.2.below hb5
  have hB5 := H4.out.1.trans (hb5.mono H4.out.1.size)
  have H5 := Lib.hid (⟨hB5, hG5, hR5, hta5, hop⟩ : _ ∧ _ ∧ _ ∧ _ ∧ _)
  have k0 : ∀ w' : World, Below w5.heap.size w5 w' → w'.cell? ⟨q, 0, none⟩ = some (.int .i64 3) := fun w' h => cells_at (heap_keep h H5.out.2.1) 0 _ rfl
  have k1 : ∀ w' : World, Below w5.heap.size w5 w' → w'.cell? ⟨q, 1, none⟩ = some (.int .i64 16) := fun w' h => cells_at (heap_keep h H5.out.2.1) 1 _ rfl
  have k2 : ∀ w' : World, Below w5.heap.size w5 w' → w'.cell? ⟨q, 2, none⟩ = some (.int .i64 4) := fun w' h => cells_at (heap_keep h H5.out.2.1) 2 _ rfl
  have k3 : ∀ w' : World, Below w5.heap.size w5 w' → w'.cell? ⟨q, 3, none⟩ = some (.int .i64 256) := fun w' h => cells_at (heap_keep h H5.out.2.1) 3 _ rfl
  clear hop hG5 hR5 hta5 hB5 hb5 H4 HPG g0 g1 g2 g3 r0 r1 r2 r3 r4
  go_upto_region 4 with (fail)
  (refine wp_region_born [.soft 0, .soft 2, .ann 7, .hard 1, .hard 3, .soft 4, .soft 5, .soft 6, .take 7, .hard 8, .soft 9] [(true, true), (false, false), (true, false), (false, false), (true, true), (true, true), (true, true), (false, false), (false, false), (true, true)] [0, 1, 0, 7, 15, 31, 31, 0, 191, 511] (fun w' => Below w5.heap.size w5 w') (BelA w5 (fun _ => True)) (fun b => b < w5.heap.size) (by kernel_rfl) (by kernel_rfl) ?_ ?_ ?_)
  · exact BelA.good (fun _ _ _ => trivial)
  · exact ⟨(Below.refl _ _).drew, rfl, trivial⟩
  iterate 2 (first | (refine bx_pure rfl (fun KK hKK => ?_); go_simp; refine hKK _ ?_; clear hKK KK) | (refine bx_load rfl rfl ?_ (fun KK hKK => ?_); (focus (first | rfl | (go_simp; done))); apply Exists.intro; apply And.intro; (focus (intro w' hC; go_simp; exact rfl)); go_simp; refine hKK _ ?_; clear hKK KK) | (refine bx_skip rfl ?_ (fun KK hKK => ?_); (focus (first | rfl | (go_simp; done))); go_simp; refine hKK _ ?_; clear hKK KK))
  (apply bx_ann rfl; (focus (intro w n hL hn; go_simp; (first | exact ⟨rfl, rfl⟩ | exact rfl))))
  clear k0 k1 k2 k3
  refine bx_one rfl (by first | rfl | (go_simp; done)) (fun G wc hA R hR hX => ?_)
  obtain ⟨hbc, rfl, -⟩ := hA
  have hlp := lpages_calls _ _ _ _ wc (H5.out.2.2.2.2.below hbc)
  have HOP := Lib.hid hlp
  clear hlp
  go_wp2_with fail
  refine HOP.out.mono ?_
  rintro e wd ⟨y, rfl, hpy, hbd⟩
  obtain ⟨by', cy, ny, pvy, ovy, rfl, -⟩ := id hpy
  go_wp2_with fail
  refine hR _ _ rfl ⟨BelA w5 (fun w' => PgAt w' (.slice (some ⟨by', 0, none⟩) ny cy) (pagD 256 T) (pagO 256 T)), fun b => b < w5.heap.size, BelA.good (fun w' o h => h.below ((Below.refl _ _).alloc (Nat.le_refl _) o)), ⟨hbc.trans (hbd.mono hbc.size), rfl, hpy⟩, Only.new hbd _, fun _ h => .inl h, ?_⟩
  clear hR hX R HOP hbd hbc hpy
  refine bx_one rfl (by first | rfl | (go_simp; done)) (fun G wc hA R hR hX => ?_)
  obtain ⟨hbc, rfl, hpy⟩ := hA
  have hj := join_calls 3 16 4 256 T _ wc hpy HTT.out.2.2.2.2.2 HTT.out.2.1 HTT.out.2.2.2.2.1 (by omega) (by omega)
  rw [show geoV ((3 : Nat) : Int) ((16 : Nat) : Int) ((4 : Nat) : Int) ((256 : Nat) : Int) = .agg #[.int .i64 3, .int .i64 16, .int .i64 4, .int .i64 256] from rfl] at hj
  have HOP := Lib.hid hj
  clear hj hpy
  go_wp2_with fail
  refine HOP.out.mono ?_
  rintro e wd ⟨vp', vs', rfl, ⟨htj, hf1, hf2⟩, hbd⟩
  obtain ⟨ap', kp', rfl, -, -⟩ := htj.p.form
  obtain ⟨ax', kx', rfl, -, -⟩ := htj.s.form
  unfold tabV Tb.cells
  go_wp2_with fail
  refine hR _ _ rfl ⟨BelG w5 (SB T (.slice ap' T.place.length kp') (.slice ax' T.spare.length kx')) (fun w' => TabAt w' T (.slice ap' T.place.length kp') (.slice ax' T.spare.length kx')), _, BelG.good (fun w' o h => h.below ((Below.refl _ _).alloc (Nat.le_refl _) o)), ⟨hbc.trans (hbd.mono hbc.size), rfl, htj.sb, htj⟩, Only.new hbd _, fun b h => h.imp_right (SB.fresh hf1 hf2 b), ?_⟩
  clear hR hX R HOP hbd hbc htj hf1 hf2
  iterate 3 (first | (refine bx_pure rfl (fun KK hKK => ?_); go_simp; refine hKK _ ?_; clear hKK KK) | (refine bx_load rfl rfl ?_ (fun KK hKK => ?_); (focus (first | rfl | (go_simp; done))); apply Exists.intro; apply And.intro; (focus (intro w' hC; go_simp; exact rfl)); go_simp; refine hKK _ ?_; clear hKK KK) | (refine bx_skip rfl ?_ (fun KK hKK => ?_); (focus (first | rfl | (go_simp; done))); go_simp; refine hKK _ ?_; clear hKK KK))
  (refine bx_take rfl rfl (fun nb KK hKK => ?_); go_simp; refine hKK _ ?_; clear hKK KK)
  refine bx_last rfl rfl (by first | rfl | (go_simp; done)) (fun G wc hA R hR hX => ?_)
  obtain ⟨⟨hbc, rfl, -, htj⟩, hnb, hnG⟩ := hA
  have n0 := cells_at hnb 0 _ rfl
  have f0 := froz_at hnb 0
  have n1 := cells_at hnb 1 _ rfl
  have f1 := froz_at hnb 1
  have n2 := cells_at hnb 2 _ rfl
  have f2 := froz_at hnb 2
  have n3 := cells_at hnb 3 _ rfl
  have f3 := froz_at hnb 3
  have n4 := cells_at hnb 4 _ rfl
  have f4 := froz_at hnb 4
  simp only [List.getElem_toArray, List.getElem_cons_succ, List.getElem_cons_zero] at n0 n1 n2 n3 n4
  have hlnb := heap_lt hnb
  have hnb0 : w5.heap.size ≤ nb := by have : ¬ nb < w5.heap.size := fun h => hnG (.inl h); omega
  have hset := set5 (.int .u32 T.seq) (.slice ap' T.place.length kp') (.slice ax' T.spare.length kx') (.int .i64 T.t0) (.int .i64 T.t1) hnb
  have hput := put5 hbc nb (.int .u32 T.seq) (.slice ap' T.place.length kp') (.slice ax' T.spare.length kx') (.int .i64 T.t0) (.int .i64 T.t1) hnb0
  have htj2 := htj.away (only5 wc nb (.int .u32 T.seq) (.slice ap' T.place.length kp') (.slice ax' T.spare.length kx') (.int .i64 T.t0) (.int .i64 T.t1)) (fun b hb e => hnG (.inr (by rw [← e]; exact hb)))
  have H8 := Lib.hid (⟨hset, hput, htj2⟩ : _ ∧ _ ∧ _)
  clear hset hput hnb0 hnG hbc hnb htj htj2
  go_wp2_with fail
  (try simp only [wpList])
  refine hR _ _ rfl ⟨EndA w5 (fun w' => w'.heap[nb]? = some (.cells #[.int .u32 T.seq, .slice ap' T.place.length kp', .slice ax' T.spare.length kx', .int .i64 T.t0, .int .i64 T.t1] 57 (0, 0)) ∧ TabAt w' T (.slice ap' T.place.length kp') (.slice ax' T.spare.length kx')), fun _ => False, EndA.good (fun w' o h => ⟨heap_old _ h.1, h.2.below ((Below.refl _ _).alloc (Nat.le_refl _) o)⟩), ⟨H8.out.2.1, fun _ => id, H8.out.1, H8.out.2.2⟩, fun _ h => h.elim, ?_⟩
  clear hR hX R n0 n1 n2 n3 n4 f0 f1 f2 f3 f4 hlnb H8
  (first | (refine bx_pure rfl (fun KK hKK => ?_); go_simp; refine hKK _ ?_; clear hKK KK) | (refine bx_load rfl rfl ?_ (fun KK hKK => ?_); (focus (first | rfl | (go_simp; done))); apply Exists.intro; apply And.intro; (focus (intro w' hC; go_simp; exact rfl)); go_simp; refine hKK _ ?_; clear hKK KK) | (refine bx_skip rfl ?_ (fun KK hKK => ?_); (focus (first | rfl | (go_simp; done))); go_simp; refine hKK _ ?_; clear hKK KK))
  refine bx_done (fun G wz hz => ?_)
  obtain ⟨hbz, -, hnz, htz⟩ := hz
  have hRz := heap_keep hbz H5.out.2.2.1
  have r0 := cells_at hRz 0 _ rfl
  have r1 := cells_at hRz 1 _ rfl
  have r2 := cells_at hRz 2 _ rfl
  have r3 := cells_at hRz 3 _ rfl
  have r4 := cells_at hRz 4 _ rfl
  simp only [List.getElem_toArray, List.getElem_cons_succ, List.getElem_cons_zero] at r0 r1 r2 r3 r4
  have hlr := heap_lt hRz
  have htaz := H5.out.2.2.2.1.below hbz
  have htk := take_calls T _ _ 0 wz htaz ⟨by omega, by omega⟩ (by rw [HTT.out.2.2.2.1]; omega) (by rw [HTT.out.2.2.1]; omega)
  unfold tabV Tb.cells at htk
  have HTK := Lib.hid (⟨htk, hbz, hnz, htz, hRz, htaz⟩ : _ ∧ _ ∧ _ ∧ _ ∧ _ ∧ _)
  clear htk hbz hnz htz hRz htaz
  go_wp2_with fail
  refine HTK.out.1.mono ?_
  rintro e w7 ⟨hb7, hcase⟩
  rcases hcase with ⟨hmay, -⟩ | ⟨-, vp7, vs7, rfl, ht7⟩
  · have := hmay.1
    rw [HTT.out.2.2.1] at this
    omega
  obtain ⟨ap7, kp7, rfl, -, -⟩ := ht7.p.form
  obtain ⟨ax7, kx7, rfl, -, -⟩ := ht7.s.form
  obtain ⟨wx, hwx⟩ : ∃ wx, wx = w7.alloc (.cells (T.cells (.slice ap7 T.place.length kp7) (.slice ax7 T.spare.length kx7)) 57) := ⟨_, rfl⟩
  have hbx : Below wz.heap.size wz wx := by rw [hwx]; exact hb7.alloc hb7.size _
  have hBx := H5.out.1.trans ((HTK.out.2.1.trans (hbx.mono HTK.out.2.1.size)).mono H5.out.1.size)
  have H7 := Lib.hid (⟨hBx, heap_keep hbx HTK.out.2.2.2.2.1, heap_keep hbx HTK.out.2.2.1, HTK.out.2.2.2.2.2.below hbx, HTK.out.2.2.2.1.below hbx⟩ : _ ∧ _ ∧ _ ∧ _ ∧ _)
  have HWX := Lib.hid hwx
  have hlp : T.place.length ≤ 100000 := by rw [HTT.out.2.2.2.1]; omega
  have HLP := Lib.hid hlp
  clear hb7 ht7 hwx hbx hBx HTK r0 r1 r2 r3 r4 hlr H5 hlp
  unfold tabV
  unfold Tb.cells at HWX ⊢
  have k0 : ∀ w' : World, Below wx.heap.size wx w' → w'.cell? ⟨r, 0, none⟩ = some (.int .u32 T.seq) := fun w' h => cells_at (heap_keep h H7.out.2.1) 0 _ rfl
  have k1 : ∀ w' : World, Below wx.heap.size wx w' → w'.cell? ⟨r, 1, none⟩ = some (.slice ap T.place.length kp) := fun w' h => cells_at (heap_keep h H7.out.2.1) 1 _ rfl
  have k2 : ∀ w' : World, Below wx.heap.size wx w' → w'.cell? ⟨r, 2, none⟩ = some (.slice ax T.spare.length kx) := fun w' h => cells_at (heap_keep h H7.out.2.1) 2 _ rfl
  have k3 : ∀ w' : World, Below wx.heap.size wx w' → w'.cell? ⟨r, 3, none⟩ = some (.int .i64 T.t0) := fun w' h => cells_at (heap_keep h H7.out.2.1) 3 _ rfl
  have k4 : ∀ w' : World, Below wx.heap.size wx w' → w'.cell? ⟨r, 4, none⟩ = some (.int .i64 T.t1) := fun w' h => cells_at (heap_keep h H7.out.2.1) 4 _ rfl
  have m0 : ∀ w' : World, Below wx.heap.size wx w' → w'.cell? ⟨nb, 0, none⟩ = some (.int .u32 T.seq) := fun w' h => cells_at (heap_keep h H7.out.2.2.1) 0 _ rfl
  have m1 : ∀ w' : World, Below wx.heap.size wx w' → w'.cell? ⟨nb, 1, none⟩ = some (.slice ap' T.place.length kp') := fun w' h => cells_at (heap_keep h H7.out.2.2.1) 1 _ rfl
  have m2 : ∀ w' : World, Below wx.heap.size wx w' → w'.cell? ⟨nb, 2, none⟩ = some (.slice ax' T.spare.length kx') := fun w' h => cells_at (heap_keep h H7.out.2.2.1) 2 _ rfl
  have m3 : ∀ w' : World, Below wx.heap.size wx w' → w'.cell? ⟨nb, 3, none⟩ = some (.int .i64 T.t0) := fun w' h => cells_at (heap_keep h H7.out.2.2.1) 3 _ rfl
  have m4 : ∀ w' : World, Below wx.heap.size wx w' → w'.cell? ⟨nb, 4, none⟩ = some (.int .i64 T.t1) := fun w' h => cells_at (heap_keep h H7.out.2.2.1) 4 _ rfl
  have hlr := heap_lt H7.out.2.1
  have hln := heap_lt H7.out.2.2.1
  go_upto_region 6 with (fail)
  rw [← HWX.out]
  clear HWX
  (refine wp_region_mix [0, 1, 2, 3, 4, 5, 6, 7, 8, 9, 10, 11, 12, 14, 13, 15, 16, 17, 18, 19, 20, 21, 22] [(true, true), (true, true), (true, true), (true, true), (true, true), (true, true), (true, true), (true, true), (true, true), (true, true), (true, true), (true, true), (true, false), (true, false), (false, true), (false, false), (false, false), (true, true), (true, true), (true, true), (true, true), (true, true), (true, true)] [0, 1, 3, 7, 15, 31, 63, 127, 255, 511, 1023, 2047, 4095, 8191, 4095, 32767, 65535, 131071, 262143, 524287, 1048575, 2097151, 4194303] (fun w' => Below wx.heap.size wx w') (by kernel_rfl) (by kernel_rfl) ?_ ?_; rotate_left; simp only [pickL, List.map_cons, List.map_nil, List.getD_cons_succ, List.getD_cons_zero])
  rotate_left
  focus exact (Below.refl _ _).drew
  (repeat (first | (refine mix_pure (fun hne K hK => ?_); go_simp; refine hK _ ?_; clear hK K hne) | (refine mix_load ?_ (fun K hK => ?_); (focus (first | rfl | (go_simp; done))); apply Exists.intro; apply And.intro; (focus (intro w' hC; go_simp; exact rfl)); go_simp; refine hK _ ?_; clear hK K) | (refine mix_skip ?_ (fun K hK => ?_); (focus (first | rfl | (go_simp; done))); go_simp; refine hK _ ?_; clear hK K)))
  clear k0 k1 k2 k3 k4 m0 m1 m2 m3 m4
  (refine mix_one (by first | rfl | (go_simp; done)) (fun R hR hX => ?_))
  have hof := of_calls T _ _ wx.drew (H7.out.2.2.2.1.below (Below.refl _ _).drew)
  unfold tabV Tb.cells at hof
  have HOF := Lib.hid hof
  clear hof
  go_wp2_with fail
  refine HOF.out.mono ?_
  rintro e wa ⟨va, rfl, hra, hba⟩
  have hba' : Below wx.heap.size wx wa := (Below.refl _ _).drew.trans (hba.mono (Nat.le_refl _))
  obtain ⟨va1, va2, va3, hva, -⟩ := hra.ex
  subst hva
  unfold RTb.cells
  go_wp2_with fail
  refine hR _ _ rfl ⟨_, hba', fun _ => rfl, ?_⟩
  clear hR hX R HOF hba
  (refine mix_one (by first | rfl | (go_simp; done)) (fun R hR hX => ?_))
  have hof := of_calls T _ _ wa (H7.out.2.2.2.2.below hba')
  unfold tabV Tb.cells at hof
  have HOF := Lib.hid (⟨hof, hra, hba'⟩ : _ ∧ _ ∧ _)
  clear hof hra hba'
  go_wp2_with fail
  refine HOF.out.1.mono ?_
  rintro e wb ⟨vb, rfl, hrb, hbb⟩
  have hbb' := HOF.out.2.2.trans (hbb.mono HOF.out.2.2.size)
  have hra' := HOF.out.2.1.below hbb
  obtain ⟨vb1, vb2, vb3, hvb, -⟩ := hrb.ex
  subst hvb
  unfold RTb.cells
  go_wp2_with fail
  ((try simp only [wpList]); refine hR _ _ rfl ⟨fun w' => w' = _, rfl, (fun h => by cases h), ?_⟩; clear hR hX R)
  clear HOF hbb
  (refine mix_one (by first | rfl | (go_simp; done)) (fun R hR hX => ?_))
  have hsa := tsame_calls T.r T.r _ _ wb hra' hrb HLP.out HLP.out
  rw [show sameR T.r T.r = true by simp [sameR]] at hsa
  unfold RTb.cells at hsa
  have HSA := Lib.hid (⟨hsa, hbb'⟩ : _ ∧ _)
  clear hsa hra' hrb hbb'
  go_wp2_with fail
  refine HSA.out.1.mono ?_
  rintro e wc ⟨rfl, hbc⟩
  have hbz := H7.out.1.trans ((HSA.out.2.trans (hbc.mono HSA.out.2.size)).mono H7.out.1.size)
  have HBZ := Lib.hid hbz
  clear hbz hbc HSA
  go_wp2_with fail
  ((try simp only [wpList]); refine hR _ _ rfl ⟨fun w' => w' = _, rfl, (fun h => by cases h), ?_⟩; clear hR hX R)
  (repeat (first | (refine mix_pure (fun hne K hK => ?_); go_simp; refine hK _ ?_; clear hK K hne) | (refine mix_load ?_ (fun K hK => ?_); (focus (first | rfl | (go_simp; done))); go_simp; refine hK _ ?_; clear hK K) | (refine mix_skip ?_ (fun K hK => ?_); (focus (first | rfl | (go_simp; done))); go_simp; refine hK _ ?_; clear hK K)))
  refine mix_done ?_
  go_wp2_with fail
  go_ret
  exact ⟨rfl, HBZ.out⟩
end Go.Proofs.Ytogejjbclimjjaa
