/- RemapPlains: the walk. -/
--only r2
import Derived.Test.YtogejjbclimjjaaTabLaid
import Derived.Test.YtogejjbclimjjaaTabOpens
import Derived.Test.YtogejjbclimjjaaStr
import Derived.Test.YtogejjbclimjjaaRPages
namespace Go.Proofs.Ytogejjbclimjjaa.lawRemapPlains
set_option linter.unusedVariables false
set_option linter.unusedSimpArgs false
open Go.RowKit Go.ChangeShapes Go.WideShapes

theorem rown_at {w : World} {B : Nat} {x : Value} {d o : List UInt8} (h : ROwnPage w B x d o) : ∃ b cap pv ov, x = .slice (some ⟨b, 0, none⟩) 1 cap ∧ w.cell? ⟨b, 0, none⟩ = some pv ∧ w.cell? ⟨b, 1, none⟩ = some ov ∧ RB w pv d ∧ RB w ov o := by
  obtain ⟨pv, ov, hown, h1, h2⟩ := h
  rcases hown.2 with ⟨-, h⟩ | ⟨g, cap, cur, rfl, hg, hgg, hc, hm, hcs, htk⟩
  · cases h
  · have key : ∀ j u, ([pv, ov] : List Value)[j]? = some u → w.cell? ⟨g, j, none⟩ = some u := fun j u hj => by
      rw [← htk, List.getElem?_take] at hj
      split at hj
      · exact cells_at hgg j u (by rw [← Array.getElem?_toList]; exact hj)
      · cases hj
    exact ⟨g, cap, pv, ov, rfl, key 0 _ rfl, key 1 _ rfl, h1, h2⟩
theorem rown_below {w w' : World} {B : Nat} {x : Value} {d o : List UInt8} (h : ROwnPage w B x d o) (hb : Below w.heap.size w w') : ROwnPage w' B x d o := by
  obtain ⟨pv, ov, hown, h1, h2⟩ := h
  exact ⟨pv, ov, own_only hown (Only.new hb fun _ => False) (fun _ _ => id), h1.below hb, h2.below hb⟩
theorem ownN_below {w w' : World} {B : Nat} {x : Value} {d o : List UInt8} (h : OwnPageN w B x d o) (hb : Below w.heap.size w w') : OwnPageN w' B x d o := by
  obtain ⟨pv, ov, hown, h1, h2⟩ := h.1
  exact ⟨h.1.below hb, RowNB.only hown h.2 (Only.new hb fun _ => False) (fun _ _ => id)⟩

theorem own2_pg {w : World} {B : Nat} {x pv ov u1 u2 : Value} {d o : List UInt8} (hown : w.ownsRow B 79 2 x 2 [pv, ov, u1, u2]) (h1 : RB w pv d) (h2 : RB w ov o) : PgAt w x d o := by
  rcases hown.2 with ⟨-, h⟩ | ⟨g, cap, cur, rfl, hg, hgg, hc, hm, hcs, htk⟩
  · cases h
  · have key : ∀ j u, ([pv, ov, u1, u2] : List Value)[j]? = some u → w.cell? ⟨g, j, none⟩ = some u := fun j u hj => by
      rw [← htk, List.getElem?_take] at hj
      split at hj
      · exact cells_at hgg j u (by rw [← Array.getElem?_toList]; exact hj)
      · cases hj
    exact ⟨g, cap, 2, pv, ov, rfl, by omega, by omega, key 0 _ rfl, key 1 _ rfl, h1, h2⟩
theorem rowNB_noByte {w : World} {B e size n : Nat} {x : Value} {xs : List Value} (hown : w.ownsRow B e size x n xs) (h : RowNB w x) : ∀ b, b < w.heap.size → x.ownBlock = some b → NoByte w b := fun b _ hx => by
  rcases hown.2 with ⟨rfl, -⟩ | ⟨g, cap, cur, rfl, hg, hgg, -⟩
  · simp [Value.ownBlock] at hx
  · simp only [Value.ownBlock, Option.some.injEq] at hx
    subst hx
    refine noByte_of hgg (fun o c hoc => ?_)
    have hm : u8v c ∈ cur.toList := by
      rw [← Array.getElem?_toList] at hoc
      exact List.mem_of_getElem? hoc
    exact h _ _ _ _ rfl hgg _ hm c rfl

/-- the law's own blocks: shape and table -/
structure PInv (w : World) (q r b : Nat) (T : Tb) (vp vs : Value) (wr : World) : Prop where
  bel : Below w.heap.size w wr
  geo : wr.heap[q]? = some (.cells #[.int .i64 3, .int .i64 b, .int .i64 4, .int .i64 256] 28 (0, 0))
  cell : wr.heap[r]? = some (.cells (T.cells vp vs) 57 (0, 0))
  tab : TabAt wr T vp vs
theorem PInv.below {w : World} {q r b : Nat} {T : Tb} {vp vs : Value} {wr wn : World} (h : PInv w q r b T vp vs wr) (hb : Below wr.heap.size wr wn) : PInv w q r b T vp vs wn :=
  ⟨h.bel.trans (hb.mono h.bel.size), heap_keep hb h.geo, heap_keep hb h.cell, h.tab.below hb⟩

set_option maxRecDepth 100000 in
set_option maxHeartbeats 1000000 in
theorem law (blocks turn spare : Int) (seq : Nat) (w : World) (hsq : seq < 4294967296) :
    Calls Try.prog 6 #[.agg #[.int .i64 blocks, .int .i64 turn, .int .i64 spare, .int .u32 seq]] w fun e w' => e = .returned (.bool true) ∧ Below w.heap.size w w' := by
  have hfin : ∀ w', Below w.heap.size w w' → (fun e w' => e = Ending.returned (.bool true) ∧ Below w.heap.size w w') (.returned (.bool true)) w' := fun w' hb => ⟨rfl, hb⟩
  generalize (fun (e : Ending) (w' : World) => e = Ending.returned (.bool true) ∧ Below w.heap.size w w') = Post at hfin ⊢
  have HF := Lib.hid hfin
  obtain ⟨b0, hb0, -, hsh⟩ := RI.shape2 blocks (w.alloc (.cells #[.int .i64 blocks, .int .i64 turn, .int .i64 spare, .int .u32 seq] 68)).drew
  obtain ⟨b, hb⟩ : ∃ b, b = 16 + b0 := ⟨_, rfl⟩
  rw [← hb] at hsh
  have hb16 : 16 ≤ b ∧ b ≤ 64 := by omega
  obtain ⟨n, hn, hpn⟩ := pick_eq turn b (by omega) (by omega)
  obtain ⟨k, hk, hpk⟩ := pick_eq spare 4 (by omega) (by omega)
  obtain ⟨T, hT⟩ : ∃ T, T = plainT b n k seq := ⟨_, rfl⟩
  have hok : T.Ok b := by rw [hT]; exact plain_ok hb16 hk
  have hg : geoOk (3 : Nat) (b : Nat) (4 : Nat) (256 : Nat) := by unfold geoOk; omega
  rw [show geoV ((3 : Nat) : Int) ((b : Nat) : Int) ((4 : Nat) : Int) ((256 : Nat) : Int) = .agg #[.int .i64 3, .int .i64 b, .int .i64 4, .int .i64 256] from rfl] at hsh
  have h0 : (w.alloc (.cells #[.int .i64 blocks, .int .i64 turn, .int .i64 spare, .int .u32 seq] 68)).heap[w.heap.size]? = some (.cells #[.int .i64 blocks, .int .i64 turn, .int .i64 spare, .int .u32 seq] 68 (0, 0)) := heap_is rfl
  have c0 := cells_at h0 0 _ rfl
  have c1 := cells_at h0 1 _ rfl
  have c2 := cells_at h0 2 _ rfl
  have c3 := cells_at h0 3 _ rfl
  simp only [List.getElem_toArray, List.getElem_cons_succ, List.getElem_cons_zero] at c0 c1 c2 c3
  have hl0 := heap_lt h0
  have hlen : T.place.length ≤ 64 ∧ T.spare.length ≤ 64 := by have := hok.len; omega
  have HT := Lib.hid (⟨hT, hok, hg, hsh, hpn, hpk, hn, hk, hb16, hlen⟩ : _ ∧ _ ∧ _ ∧ _ ∧ _ ∧ _ ∧ _ ∧ _ ∧ _ ∧ _)
  clear hT hok hg hsh hpn hpk hn hk hb hb0 hfin h0 hb16 hlen
  go_enter Try.func6, Try.ntmps6
  go_upto_region 1 with (fail)
  (refine wp_region_mix [0, 1, 2, 3, 4, 5, 6, 7, 8, 9, 10, 11] [(true, true), (true, false), (true, true), (true, false), (true, true), (true, false), (true, true), (true, false), (true, true), (true, true), (true, true), (true, true)] [0, 1, 0, 4, 0, 16, 0, 64, 3, 271, 831, 2047] _ (by kernel_rfl) (by kernel_rfl) (rfl : _ = _) ?_; simp only [pickL, List.map_cons, List.map_nil, List.getD_cons_succ, List.getD_cons_zero])
  (repeat (first | (refine mix_pure (fun hne K hK => ?_); go_simp; refine hK _ ?_; clear hK K hne) | (refine mix_load ?_ (fun K hK => ?_); (focus (first | rfl | (go_simp; done))); go_simp; refine hK _ ?_; clear hK K) | (refine mix_skip ?_ (fun K hK => ?_); (focus (first | rfl | (go_simp; done))); go_simp; refine hK _ ?_; clear hK K)))
  refine mix_done ?_
  go_wp2_with fail
  refine HT.out.2.2.2.1.mono ?_
  rintro e w1 ⟨rfl, hb1⟩
  have hbw1 : Below w.heap.size w w1 := ((Below.refl w.heap.size w).alloc (Nat.le_refl _) _).drew.trans (hb1.mono (Nat.le_of_lt hl0))
  obtain ⟨q, hq⟩ : ∃ q, q = w1.heap.size := ⟨_, rfl⟩
  obtain ⟨w2, hw2⟩ : ∃ w2, w2 = w1.alloc (.cells #[.int .i64 3, .int .i64 b, .int .i64 4, .int .i64 256] 28) := ⟨_, rfl⟩
  have hb2 : Below w.heap.size w w2 := by rw [hw2]; exact hbw1.alloc hbw1.size _
  have hG : w2.heap[q]? = some (.cells #[.int .i64 3, .int .i64 b, .int .i64 4, .int .i64 256] 28 (0, 0)) := by rw [hw2]; exact heap_is hq
  clear c0 c1 c2 c3 hl0 hb1
  have g0 := cells_at hG 0 _ rfl
  have g1 := cells_at hG 1 _ rfl
  have g2 := cells_at hG 2 _ rfl
  have g3 := cells_at hG 3 _ rfl
  simp only [List.getElem_toArray, List.getElem_cons_succ, List.getElem_cons_zero] at g0 g1 g2 g3
  have hlg := heap_lt hG
  have hpc := plain_calls 3 b 4 256 turn spare n k seq w2 HT.out.2.2.2.2.2.2.2.2.1 HT.out.2.2.2.2.1 HT.out.2.2.2.2.2.1 HT.out.2.2.2.2.2.2.1 HT.out.2.2.2.2.2.2.2.1 hsq
  rw [← HT.out.1] at hpc
  rw [show geoV ((3 : Nat) : Int) (b : Int) ((4 : Nat) : Int) ((256 : Nat) : Int) = .agg #[.int .i64 3, .int .i64 b, .int .i64 4, .int .i64 256] from rfl] at hpc
  have HPC := Lib.hid hpc
  have H2 := Lib.hid (⟨hb2, hG⟩ : _ ∧ _)
  have HW2 := Lib.hid hw2
  clear hbw1 hb2 hG hpc hw2
  go_upto_region 3 with (fail)
  rw [← hq, ← HW2.out]
  clear hq HW2
  go_wp2_with fail
  refine HPC.out.mono ?_
  rintro e w3 ⟨vp, vs, rfl, hta, hb3⟩
  obtain ⟨ap, kp, rfl, hp1, hp2⟩ := hta.p.form
  obtain ⟨ax, kx, rfl, hx1, hx2⟩ := hta.s.form
  obtain ⟨r, hr⟩ : ∃ r, r = w3.heap.size := ⟨_, rfl⟩
  obtain ⟨w4, hw4⟩ : ∃ w4, w4 = w3.alloc (.cells (T.cells (.slice ap T.place.length kp) (.slice ax T.spare.length kx)) 57) := ⟨_, rfl⟩
  have hb24 : Below w2.heap.size w2 w4 := by rw [hw4]; exact hb3.alloc hb3.size _
  have hP4 : PInv w q r b T (.slice ap T.place.length kp) (.slice ax T.spare.length kx) w4 := ⟨H2.out.1.trans (hb24.mono H2.out.1.size), heap_keep hb24 H2.out.2, by rw [hw4]; exact heap_is hr, hta.below (by rw [hw4]; exact (Below.refl _ _).alloc (Nat.le_refl _) _)⟩
  have HP4 := Lib.hid hP4
  have HW4 := Lib.hid hw4
  clear hP4 hta hb3 hb24 hw4 H2 HPC hp1 hp2 hx1 hx2 g0 g1 g2 g3 hlg
  unfold tabV
  unfold Tb.cells at HW4 ⊢
  go_upto_region 4 with (fail)
  rw [← hr, ← HW4.out]
  clear hr HW4
  have hen := encode_calls 3 b 4 256 T _ _ w4 HP4.out.tab HT.out.2.2.1 (by have := HT.out.2.2.2.2.2.2.2.2.2.1; omega) (by have := HT.out.2.2.2.2.2.2.2.2.2.2; omega)
  rw [show geoV ((3 : Nat) : Int) (b : Int) ((4 : Nat) : Int) ((256 : Nat) : Int) = .agg #[.int .i64 3, .int .i64 b, .int .i64 4, .int .i64 256] from rfl] at hen
  unfold tabV Tb.cells EncEnds at hen
  have HEN := Lib.hid hen
  clear hen
  have hPc := HP4.out.cell
  have hPg := HP4.out.geo
  unfold Tb.cells at hPc
  have r0 := cells_at hPc 0 _ rfl
  have r1 := cells_at hPc 1 _ rfl
  have r2 := cells_at hPc 2 _ rfl
  have r3 := cells_at hPc 3 _ rfl
  have r4 := cells_at hPc 4 _ rfl
  have g0 := cells_at hPg 0 _ rfl
  have g1 := cells_at hPg 1 _ rfl
  have g2 := cells_at hPg 2 _ rfl
  have g3 := cells_at hPg 3 _ rfl
  simp only [List.getElem_toArray, List.getElem_cons_succ, List.getElem_cons_zero] at r0 r1 r2 r3 r4 g0 g1 g2 g3
  have hlr := heap_lt hPc
  have hlg := heap_lt hPg
  clear hPc hPg
  go_wp2_with fail
  refine HEN.out.mono ?_
  rintro e w5 ⟨hb5, hcase⟩
  rcases hcase with ⟨-, x5, rfl, hx5⟩ | ⟨hno, -⟩
  rotate_left
  · exact absurd HT.out.2.1 hno
  obtain ⟨Ln, hLn⟩ : ∃ n, n = (encB T).length := ⟨_, rfl⟩
  rw [← hLn] at hx5
  obtain ⟨a5, k5, rfl⟩ := own_slice hx5
  have hL72 : Ln ≤ 72 := by rw [hLn, encB_length]; have := HT.out.2.1.len; have := HT.out.2.2.2.2.2.2.2.2.1.2; omega
  have H5 := Lib.hid (⟨hx5, hb5, HP4.out.below hb5, hLn, hL72⟩ : _ ∧ _ ∧ _ ∧ _ ∧ _)
  clear hx5 hb5 HEN hLn hL72
  clear r0 r1 r2 r3 r4 g0 g1 g2 g3 hlr hlg
  go_wp2_with fail
  refine (laid_calls w5).mono ?_
  rintro e w6 ⟨rfl, hb6⟩
  have hP6 := H5.out.2.2.1.below hb6
  have hck := tcheck_calls 3 b 4 256 T _ _ w6 hP6.tab HT.out.2.2.1 (by have := HT.out.2.2.2.2.2.2.2.2.2.1; omega) (by have := HT.out.2.2.2.2.2.2.2.2.2.2; omega)
  rw [show geoV ((3 : Nat) : Int) (b : Int) ((4 : Nat) : Int) ((256 : Nat) : Int) = .agg #[.int .i64 3, .int .i64 b, .int .i64 4, .int .i64 256] from rfl] at hck
  unfold tabV Tb.cells TCheckEnds at hck
  rw [show T.err b = 0 from if_pos HT.out.2.1] at hck
  have H6 := Lib.hid (⟨hP6, hck, hb6⟩ : _ ∧ _ ∧ _)
  clear hP6 hck hb6
  have hPc := H6.out.1.cell
  have hPg := H6.out.1.geo
  unfold Tb.cells at hPc
  have r0 := cells_at hPc 0 _ rfl
  have r1 := cells_at hPc 1 _ rfl
  have r2 := cells_at hPc 2 _ rfl
  have r3 := cells_at hPc 3 _ rfl
  have r4 := cells_at hPc 4 _ rfl
  have g0 := cells_at hPg 0 _ rfl
  have g1 := cells_at hPg 1 _ rfl
  have g2 := cells_at hPg 2 _ rfl
  have g3 := cells_at hPg 3 _ rfl
  simp only [List.getElem_toArray, List.getElem_cons_succ, List.getElem_cons_zero] at r0 r1 r2 r3 r4 g0 g1 g2 g3
  have hlr := heap_lt hPc
  have hlg := heap_lt hPg
  clear hPc hPg
  go_wp2_with fail
  refine H6.out.2.1.mono ?_
  rintro e w7 ⟨rfl, hb7⟩
  have hP7 := H6.out.1.below hb7
  have hb57 := H6.out.2.2.trans (hb7.mono H6.out.2.2.size)
  have hof := of_calls T _ _ w7 hP7.tab
  unfold tabV Tb.cells at hof
  have H7 := Lib.hid (⟨hP7, hof, hb57⟩ : _ ∧ _ ∧ _)
  clear r0 r1 r2 r3 r4 g0 g1 g2 g3 hlr hlg
  clear hP7 hof hb7 hb57 H6
  have hPc := H7.out.1.cell
  have hPg := H7.out.1.geo
  unfold Tb.cells at hPc
  have r0 := cells_at hPc 0 _ rfl
  have r1 := cells_at hPc 1 _ rfl
  have r2 := cells_at hPc 2 _ rfl
  have r3 := cells_at hPc 3 _ rfl
  have r4 := cells_at hPc 4 _ rfl
  have g0 := cells_at hPg 0 _ rfl
  have g1 := cells_at hPg 1 _ rfl
  have g2 := cells_at hPg 2 _ rfl
  have g3 := cells_at hPg 3 _ rfl
  simp only [List.getElem_toArray, List.getElem_cons_succ, List.getElem_cons_zero] at r0 r1 r2 r3 r4 g0 g1 g2 g3
  have hlr := heap_lt hPc
  have hlg := heap_lt hPg
  clear hPc hPg
  go_wp2_with fail
  refine H7.out.2.1.mono ?_
  rintro e w8 ⟨v8, rfl, hr8, hb8⟩
  have hre := rencode_calls T v8 b w8 hr8 HT.out.2.1 HT.out.2.2.2.2.2.2.2.2.1.2 HP4.out.tab.seq
  have hb58 := H7.out.2.2.trans (hb8.mono H7.out.2.2.size)
  obtain ⟨va1, va2, va3, hva, -⟩ := hr8.ex
  subst hva
  unfold RTb.cells at hre ⊢
  have H8 := Lib.hid (⟨hre, hb58⟩ : _ ∧ _)
  clear r0 r1 r2 r3 r4 g0 g1 g2 g3 hlr hlg
  clear hre hr8 hb8 hb58 H7
  go_wp2_with fail
  refine H8.out.1.mono ?_
  rintro e w9 ⟨y9, rfl, hy9, hb9⟩
  have hb59 := H8.out.2.trans (hb9.mono H8.out.2.size)
  have hry : RB w9 y9 (encB T) := RV.own hy9
  have hx9 := own_only H5.out.1 (Only.new hb59 fun _ => False) (fun _ _ => id)
  have hrx : RB w9 (.slice a5 Ln k5) (encB T) := RV.own hx9
  obtain ⟨ay, ky, rfl, -, -⟩ := hry.form
  have hsm := rsame_calls _ _ _ _ w9 hrx hry
  rw [decide_eq_true rfl] at hsm
  have H9 := Lib.hid (⟨hsm, H5.out.2.2.1.below hb59, hx9, H5.out.2.1.trans (hb59.mono H5.out.2.1.size)⟩ : _ ∧ _ ∧ _ ∧ _)
  rw [← H5.out.2.2.2.1]
  rw [← H5.out.2.2.2.1] at H9
  clear hsm hry hrx hx9 hy9 hb9 hb59 H8
  go_wp2_with fail
  refine H9.out.1.mono ?_
  rintro e w' ⟨rfl, rfl⟩
  go_upto_region 7 with (fail)
  have kg0 : ∀ w', Below w4.heap.size w4 w' → w'.cell? ⟨q, 0, none⟩ = some (.int .i64 3) := fun w' h => cells_at (heap_keep h HP4.out.geo) 0 _ rfl
  have kg1 : ∀ w', Below w4.heap.size w4 w' → w'.cell? ⟨q, 1, none⟩ = some (.int .i64 b) := fun w' h => cells_at (heap_keep h HP4.out.geo) 1 _ rfl
  have kg2 : ∀ w', Below w4.heap.size w4 w' → w'.cell? ⟨q, 2, none⟩ = some (.int .i64 4) := fun w' h => cells_at (heap_keep h HP4.out.geo) 2 _ rfl
  have kg3 : ∀ w', Below w4.heap.size w4 w' → w'.cell? ⟨q, 3, none⟩ = some (.int .i64 256) := fun w' h => cells_at (heap_keep h HP4.out.geo) 3 _ rfl
  (refine wp_region_born [.soft 0, .soft 3, .ann 1, .ann 8, .take 1, .hard 2, .hard 4, .soft 5, .soft 6, .soft 7, .take 8, .hard 9, .soft 10] [(true, true), (false, false), (false, false), (true, false), (false, false), (true, true), (true, true), (true, true), (false, false), (false, false), (true, true)] [0, 0, 3, 0, 15, 31, 63, 63, 0, 383, 1023] (fun w' => Below w4.heap.size w4 w') (BelG w4 (fun b => (Value.slice a5 Ln k5).ownBlock = some b) (fun w' => w'.ownsRow w4.heap.size 5 1 (.slice a5 Ln k5) Ln ((encB T).map u8v))) (fun b => b < w4.heap.size ∨ (Value.slice a5 Ln k5).ownBlock = some b) (by kernel_rfl) (by kernel_rfl) ?_ ?_ ?_)
  · exact BelG.good (fun _ o h => h.alloc o)
  · exact ⟨H9.out.2.2.2.drew, rfl, fun b hb => (H9.out.2.2.1.lt b hb).2, H9.out.2.2.1⟩
  iterate 2 (first | (refine bx_pure rfl (fun KK hKK => ?_); go_simp; refine hKK _ ?_; clear hKK KK) | (refine bx_load rfl rfl ?_ (fun KK hKK => ?_); (focus (first | rfl | (go_simp; done))); apply Exists.intro; apply And.intro; (focus (intro w' hC; go_simp; exact rfl)); go_simp; refine hKK _ ?_; clear hKK KK) | (refine bx_skip rfl ?_ (fun KK hKK => ?_); (focus (first | rfl | (go_simp; done))); go_simp; refine hKK _ ?_; clear hKK KK))
  clear kg0 kg1 kg2 kg3
  iterate 2 (apply bx_ann rfl; (focus (intro w n hL hn; go_simp; (first | exact ⟨rfl, rfl⟩ | exact rfl))))
  (refine bx_take rfl rfl (fun nb1 KK hKK => ?_); go_simp; refine hKK _ ?_; clear hKK KK)
  refine bx_one rfl (by first | rfl | (go_simp; done)) (fun G wc hA R hR hX => ?_)
  obtain ⟨⟨hbc, rfl, hSl, hown⟩, hnb, hnG⟩ := hA
  obtain ⟨iu, hiu, hu0, hu1, hu2⟩ := info_parts infoU8
  have hrv : RV wc (.slice (some ⟨nb1, 0, none⟩) 3 3) [.int .u8 0, .int .u8 0, .int .u8 0] := RV.block hnb rfl (Nat.le_refl _) (by decide) rfl
  refine wpList_append_RV rfl _ _ 23 rfl w4.heap.size 5 iu (.int .u8 0) 1 Try.underlying23 hiu hu0 hu1 hu2 rfl (.slice a5 Ln k5) Ln _ rfl hown _ _ rfl hrv (fun u hu => by simp at hu; subst hu; rfl) ?c1 ?c2 hbc.size ?_
  case c1 => simp only [maxLen, List.length_cons, List.length_nil]; have := H5.out.2.2.2.2; omega
  case c2 => simp only [List.length_cons, List.length_nil]; have := H5.out.2.2.2.2; omega
  intro v2 wd hown2 hg2 _
  have hbd := below_pushed hbc hown hg2 hbc.size (Nat.le_refl _)
  have hrb : RB wd v2 (encB T ++ List.replicate 3 0) := by
    have := RV.own hown2
    show RV _ _ _
    rw [List.map_append]
    exact this
  have hOd : Only (fun b => b < w4.heap.size ∨ (Value.slice a5 Ln k5).ownBlock = some b) wc wd := ⟨hg2.os, hg2.tape, hg2.output, hg2.size, fun b hb hn => hg2.block b hb (fun e => hn (.inr e.symm))⟩
  obtain ⟨a2, k2, rfl⟩ := own_slice hown2
  simp only [wpList]
  refine hR _ _ rfl ⟨BelA w4 (fun w' => RB w' (.slice a2 (Ln + 3) k2) (encB T ++ List.replicate 3 0)), fun b => b < w4.heap.size, BelA.good (fun w' o h => h.below ((Below.refl _ _).alloc (Nat.le_refl _) o)), ⟨hbd, rfl, hrb⟩, hOd, fun _ h => .inl (.inl h), ?_⟩
  clear hR hX R hown2 hg2 hbd hrb hOd hrv hbc hSl hown hnb hnG
  refine bx_one rfl (by first | rfl | (go_simp; done)) (fun G wc hA R hR hX => ?_)
  obtain ⟨hbc, rfl, hrb⟩ := hA
  have hdec := decode_calls _ _ 3 b 4 256 wc hrb HT.out.2.2.1
  rw [show geoV ((3 : Nat) : Int) (b : Int) ((4 : Nat) : Int) ((256 : Nat) : Int) = .agg #[.int .i64 3, .int .i64 b, .int .i64 4, .int .i64 256] from rfl] at hdec
  have hdg := dec_enc HT.out.2.1 HT.out.2.2.2.2.2.2.2.2.1.2 HP4.out.tab.seq 3
  have hres : dRes b (encB T ++ List.replicate 3 0) = T := by unfold dRes; rw [if_pos hdg.1]; exact hdg.2
  have herr : dErr b (encB T ++ List.replicate 3 0) = 0 := by unfold dErr; rw [if_pos hdg.1]
  unfold DecEnds at hdec
  rw [hres, herr] at hdec
  have HOP := Lib.hid hdec
  clear hdec hdg hres herr hrb
  go_wp2_with fail
  refine HOP.out.mono ?_
  rintro e wd ⟨vp', vs', rfl, ⟨htj, hf1, hf2⟩, hbd⟩
  obtain ⟨ap', kp', rfl, -, -⟩ := htj.p.form
  obtain ⟨ax', kx', rfl, -, -⟩ := htj.s.form
  unfold tabV Tb.cells
  go_wp2_with fail
  refine hR _ _ rfl ⟨BelG w4 (SB T (.slice ap' T.place.length kp') (.slice ax' T.spare.length kx')) (fun w' => TabAt w' T (.slice ap' T.place.length kp') (.slice ax' T.spare.length kx')), _, BelG.good (fun w' o h => h.below ((Below.refl _ _).alloc (Nat.le_refl _) o)), ⟨hbc.trans (hbd.mono hbc.size), rfl, htj.sb, htj⟩, Only.new hbd _, fun b h => h.imp_right (SB.fresh hf1 hf2 b), ?_⟩
  clear hR hX R HOP hbd hbc htj hf1 hf2
  iterate 3 (first | (refine bx_pure rfl (fun KK hKK => ?_); go_simp; refine hKK _ ?_; clear hKK KK) | (refine bx_load rfl rfl ?_ (fun KK hKK => ?_); (focus (first | rfl | (go_simp; done))); apply Exists.intro; apply And.intro; (focus (intro w' hC; go_simp; exact rfl)); go_simp; refine hKK _ ?_; clear hKK KK) | (refine bx_skip rfl ?_ (fun KK hKK => ?_); (focus (first | rfl | (go_simp; done))); go_simp; refine hKK _ ?_; clear hKK KK))
  (refine bx_take rfl rfl (fun nb KK hKK => ?_); go_simp; refine hKK _ ?_; clear hKK KK)
  refine bx_last rfl rfl (by first | rfl | (go_simp; done)) (fun G wc hA R hR hX => ?_)
  obtain ⟨⟨hbc, rfl, -, htj⟩, hnb, hnG⟩ := hA
  have n0 := cells_at hnb 0 _ rfl
  have f0 := froz_at hnb 0
  have n1 := cells_at hnb 1 _ rfl
  have f1 := froz_at hnb 1
  have n2 := cells_at hnb 2 _ rfl
  have f2 := froz_at hnb 2
  have n3 := cells_at hnb 3 _ rfl
  have f3 := froz_at hnb 3
  have n4 := cells_at hnb 4 _ rfl
  have f4 := froz_at hnb 4
  simp only [List.getElem_toArray, List.getElem_cons_succ, List.getElem_cons_zero] at n0 n1 n2 n3 n4
  have hlnb := heap_lt hnb
  have hnb0 : w4.heap.size ≤ nb := by have : ¬ nb < w4.heap.size := fun h => hnG (.inl h); omega
  have hset := set5 (.int .u32 T.seq) (.slice ap' T.place.length kp') (.slice ax' T.spare.length kx') (.int .i64 T.t0) (.int .i64 T.t1) hnb
  have hput := put5 hbc nb (.int .u32 T.seq) (.slice ap' T.place.length kp') (.slice ax' T.spare.length kx') (.int .i64 T.t0) (.int .i64 T.t1) hnb0
  have htj2 := htj.away (only5 wc nb (.int .u32 T.seq) (.slice ap' T.place.length kp') (.slice ax' T.spare.length kx') (.int .i64 T.t0) (.int .i64 T.t1)) (fun b hb e => hnG (.inr (by rw [← e]; exact hb)))
  have H8 := Lib.hid (⟨hset, hput, htj2⟩ : _ ∧ _ ∧ _)
  clear hset hput hnb0 hnG hbc hnb htj htj2
  go_wp2_with fail
  (try simp only [wpList])
  refine hR _ _ rfl ⟨EndA w4 (fun w' => w'.heap[nb]? = some (.cells #[.int .u32 T.seq, .slice ap' T.place.length kp', .slice ax' T.spare.length kx', .int .i64 T.t0, .int .i64 T.t1] 57 (0, 0)) ∧ TabAt w' T (.slice ap' T.place.length kp') (.slice ax' T.spare.length kx')), fun _ => False, EndA.good (fun w' o h => ⟨heap_old _ h.1, h.2.below ((Below.refl _ _).alloc (Nat.le_refl _) o)⟩), ⟨H8.out.2.1, fun _ => id, H8.out.1, H8.out.2.2⟩, fun _ h => h.elim, ?_⟩
  clear hR hX R n0 n1 n2 n3 n4 f0 f1 f2 f3 f4 hlnb H8
  (first | (refine bx_pure rfl (fun KK hKK => ?_); go_simp; refine hKK _ ?_; clear hKK KK) | (refine bx_load rfl rfl ?_ (fun KK hKK => ?_); (focus (first | rfl | (go_simp; done))); apply Exists.intro; apply And.intro; (focus (intro w' hC; go_simp; exact rfl)); go_simp; refine hKK _ ?_; clear hKK KK) | (refine bx_skip rfl ?_ (fun KK hKK => ?_); (focus (first | rfl | (go_simp; done))); go_simp; refine hKK _ ?_; clear hKK KK))
  refine bx_done (fun G wz hz => ?_)
  obtain ⟨hbz, -, hnz, htz⟩ := hz
  have hPz := HP4.out.below hbz
  have HZ := Lib.hid (⟨hPz, hnz, htz⟩ : _ ∧ _ ∧ _)
  have hpg := pages_calls 3 b 4 256 T _ _ wz hPz.tab HT.out.2.2.1 (by have := HT.out.2.2.2.2.2.2.2.2.2.1; omega) (by have := HT.out.2.2.2.2.2.2.2.2.2.2; omega)
  rw [show geoV ((3 : Nat) : Int) (b : Int) ((4 : Nat) : Int) ((256 : Nat) : Int) = .agg #[.int .i64 3, .int .i64 b, .int .i64 4, .int .i64 256] from rfl] at hpg
  unfold tabV Tb.cells PagesEnds at hpg
  have HPG := Lib.hid hpg
  clear hpg hbz hnz htz hPz H9 H5
  have hPc := HZ.out.1.cell
  have hPg := HZ.out.1.geo
  unfold Tb.cells at hPc
  have r0 := cells_at hPc 0 _ rfl
  have r1 := cells_at hPc 1 _ rfl
  have r2 := cells_at hPc 2 _ rfl
  have r3 := cells_at hPc 3 _ rfl
  have r4 := cells_at hPc 4 _ rfl
  have g0 := cells_at hPg 0 _ rfl
  have g1 := cells_at hPg 1 _ rfl
  have g2 := cells_at hPg 2 _ rfl
  have g3 := cells_at hPg 3 _ rfl
  simp only [List.getElem_toArray, List.getElem_cons_succ, List.getElem_cons_zero] at r0 r1 r2 r3 r4 g0 g1 g2 g3
  have hlr := heap_lt hPc
  have hlg := heap_lt hPg
  clear hPc hPg
  go_wp2_with fail
  refine HPG.out.mono ?_
  rintro e wA ⟨hbA, hcase⟩
  rcases hcase with ⟨-, yA, rfl, hopA, hnbA⟩ | ⟨hno, -⟩
  rotate_left
  · exact absurd HT.out.2.1 hno
  obtain ⟨pbA, pcA, -, -, hyA, -⟩ := hopA.at
  subst hyA
  have hPA := HZ.out.1.below hbA
  have hof := of_calls T _ _ wA hPA.tab
  unfold tabV Tb.cells at hof
  have HA := Lib.hid (⟨hof, hPA, hopA, hnbA, hbA⟩ : _ ∧ _ ∧ _ ∧ _ ∧ _)
  clear hof hopA hnbA hbA HPG
  clear r0 r1 r2 r3 r4 g0 g1 g2 g3 hlr hlg
  have hPc := hPA.cell
  have hPg := hPA.geo
  unfold Tb.cells at hPc
  have r0 := cells_at hPc 0 _ rfl
  have r1 := cells_at hPc 1 _ rfl
  have r2 := cells_at hPc 2 _ rfl
  have r3 := cells_at hPc 3 _ rfl
  have r4 := cells_at hPc 4 _ rfl
  have g0 := cells_at hPg 0 _ rfl
  have g1 := cells_at hPg 1 _ rfl
  have g2 := cells_at hPg 2 _ rfl
  have g3 := cells_at hPg 3 _ rfl
  simp only [List.getElem_toArray, List.getElem_cons_succ, List.getElem_cons_zero] at r0 r1 r2 r3 r4 g0 g1 g2 g3
  have hlr := heap_lt hPc
  have hlg := heap_lt hPg
  clear hPc hPg hPA
  go_wp2_with fail
  refine HA.out.1.mono ?_
  rintro e wB ⟨vB, rfl, hrB, hbB⟩
  have hrp := rpages_calls T vB b wB hrB HT.out.2.1 HT.out.2.2.2.2.2.2.2.2.1.2 HP4.out.tab.seq
  obtain ⟨va1, va2, va3, hva, -⟩ := hrB.ex
  subst hva
  unfold RTb.cells at hrp ⊢
  have HB := Lib.hid (⟨hrp, hbB⟩ : _ ∧ _)
  clear r0 r1 r2 r3 r4 g0 g1 g2 g3 hlr hlg
  clear hrp hrB hbB
  go_wp2_with fail
  refine HB.out.1.mono ?_
  rintro e wC ⟨xC, rfl, hopC, hbC⟩
  obtain ⟨xb, xc, -, -, hxC, -⟩ := rown_at hopC
  subst hxC
  have hbAC := HB.out.2.trans (hbC.mono HB.out.2.size)
  have hbzC := HA.out.2.2.2.2.trans (hbAC.mono HA.out.2.2.2.2.size)
  have HC := Lib.hid (⟨HA.out.2.1.below hbAC, heap_keep hbzC HZ.out.2.1, HZ.out.2.2.below hbzC, (ownN_below ⟨HA.out.2.2.1, HA.out.2.2.2.1⟩ hbAC), hopC, hbzC⟩ : _ ∧ _ ∧ _ ∧ _ ∧ _ ∧ _)
  clear hopC hbC hbAC hbzC HB HA
  have kr0 : ∀ w', Below wC.heap.size wC w' → w'.cell? ⟨r, 0, none⟩ = some (.int .u32 T.seq) := fun w' h => cells_at (heap_keep h HC.out.1.cell) 0 _ rfl
  have kr1 : ∀ w', Below wC.heap.size wC w' → w'.cell? ⟨r, 1, none⟩ = some (.slice ap T.place.length kp) := fun w' h => cells_at (heap_keep h HC.out.1.cell) 1 _ rfl
  have kr2 : ∀ w', Below wC.heap.size wC w' → w'.cell? ⟨r, 2, none⟩ = some (.slice ax T.spare.length kx) := fun w' h => cells_at (heap_keep h HC.out.1.cell) 2 _ rfl
  have kr3 : ∀ w', Below wC.heap.size wC w' → w'.cell? ⟨r, 3, none⟩ = some (.int .i64 T.t0) := fun w' h => cells_at (heap_keep h HC.out.1.cell) 3 _ rfl
  have kr4 : ∀ w', Below wC.heap.size wC w' → w'.cell? ⟨r, 4, none⟩ = some (.int .i64 T.t1) := fun w' h => cells_at (heap_keep h HC.out.1.cell) 4 _ rfl
  have kn0 : ∀ w', Below wC.heap.size wC w' → w'.cell? ⟨nb, 0, none⟩ = some (.int .u32 T.seq) := fun w' h => cells_at (heap_keep h HC.out.2.1) 0 _ rfl
  have kn1 : ∀ w', Below wC.heap.size wC w' → w'.cell? ⟨nb, 1, none⟩ = some (.slice ap' T.place.length kp') := fun w' h => cells_at (heap_keep h HC.out.2.1) 1 _ rfl
  have kn2 : ∀ w', Below wC.heap.size wC w' → w'.cell? ⟨nb, 2, none⟩ = some (.slice ax' T.spare.length kx') := fun w' h => cells_at (heap_keep h HC.out.2.1) 2 _ rfl
  have kn3 : ∀ w', Below wC.heap.size wC w' → w'.cell? ⟨nb, 3, none⟩ = some (.int .i64 T.t0) := fun w' h => cells_at (heap_keep h HC.out.2.1) 3 _ rfl
  have kn4 : ∀ w', Below wC.heap.size wC w' → w'.cell? ⟨nb, 4, none⟩ = some (.int .i64 T.t1) := fun w' h => cells_at (heap_keep h HC.out.2.1) 4 _ rfl
  have hlr := heap_lt HC.out.1.cell
  have hln := heap_lt HC.out.2.1
  go_upto_region 10 with (fail)
  (refine wp_region_mix [0, 1, 2, 3, 4, 5, 6, 7, 9, 8, 10, 11, 12, 13, 14, 15, 16, 17, 18, 19, 20] [(true, true), (true, true), (true, true), (true, true), (true, true), (true, true), (true, true), (true, false), (true, false), (false, true), (false, false), (false, false), (true, true), (true, true), (true, true), (true, true), (true, true), (true, true), (true, true), (true, true), (true, true)] [0, 1, 3, 7, 15, 31, 63, 127, 255, 127, 1023, 2047, 4095, 8191, 16383, 32767, 65535, 32767, 163839, 524287, 1048575] (fun w' => Below wC.heap.size wC w') (by kernel_rfl) (by kernel_rfl) ?_ ?_; rotate_left; simp only [pickL, List.map_cons, List.map_nil, List.getD_cons_succ, List.getD_cons_zero])
  rotate_left
  focus exact (Below.refl _ _).drew
  (repeat (first | (refine mix_pure (fun hne K hK => ?_); go_simp; refine hK _ ?_; clear hK K hne) | (refine mix_load ?_ (fun K hK => ?_); (focus (first | rfl | (go_simp; done))); apply Exists.intro; apply And.intro; (focus (intro w' hC; go_simp; exact rfl)); go_simp; refine hK _ ?_; clear hK K) | (refine mix_skip ?_ (fun K hK => ?_); (focus (first | rfl | (go_simp; done))); go_simp; refine hK _ ?_; clear hK K)))
  clear kr0 kr1 kr2 kr3 kr4 kn0 kn1 kn2 kn3 kn4 hlr hln
  (refine mix_one (by first | rfl | (go_simp; done)) (fun R hR hX => ?_))
  have hof := of_calls T _ _ wC.drew (HC.out.2.2.1.below (Below.refl _ _).drew)
  unfold tabV Tb.cells at hof
  have HOF := Lib.hid hof
  clear hof
  go_wp2_with fail
  refine HOF.out.mono ?_
  rintro e wa ⟨va, rfl, hra, hba⟩
  have hba' : Below wC.heap.size wC wa := (Below.refl _ _).drew.trans (hba.mono (Nat.le_refl _))
  obtain ⟨va1, va2, va3, hva, -⟩ := id hra.ex
  subst hva
  have HWA := Lib.hid (⟨hra, hba'⟩ : _ ∧ _)
  unfold RTb.cells
  go_wp2_with fail
  refine hR _ _ rfl ⟨_, hba', fun _ => rfl, ?_⟩
  clear hR hX R HOF hba hba' hra
  (repeat (first | (refine mix_pure (fun hne K hK => ?_); go_simp; refine hK _ ?_; clear hK K hne) | (refine mix_load ?_ (fun K hK => ?_); (focus (first | rfl | (go_simp; done))); apply Exists.intro; apply And.intro; (focus (intro w' hC; go_simp; exact rfl)); go_simp; refine hK _ ?_; clear hK K) | (refine mix_skip ?_ (fun K hK => ?_); (focus (first | rfl | (go_simp; done))); go_simp; refine hK _ ?_; clear hK K)))
  (refine mix_one (by first | rfl | (go_simp; done)) (fun R hR hX => ?_))
  have hof := of_calls T _ _ wa (HC.out.1.tab.below HWA.out.2)
  unfold tabV Tb.cells at hof
  have HOF := Lib.hid hof
  clear hof
  go_wp2_with fail
  refine HOF.out.mono ?_
  rintro e wb ⟨vb, rfl, hrb, hbb⟩
  have hbb' := HWA.out.2.trans (hbb.mono HWA.out.2.size)
  have hsa := tsame_calls T.r T.r _ _ wb (HWA.out.1.below hbb) hrb (by show T.place.length ≤ 100000; have := HT.out.2.2.2.2.2.2.2.2.2.1; omega) (by show T.place.length ≤ 100000; have := HT.out.2.2.2.2.2.2.2.2.2.1; omega)
  rw [show sameR T.r T.r = true by simp [sameR]] at hsa
  obtain ⟨vb1, vb2, vb3, hvb, -⟩ := hrb.ex
  subst hvb
  unfold RTb.cells at hsa ⊢
  have HSA := Lib.hid (⟨hsa, hbb'⟩ : _ ∧ _)
  clear hsa hbb hbb' hrb HOF HWA
  go_wp2_with fail
  ((try simp only [wpList]); refine hR _ _ rfl ⟨fun w' => w' = _, rfl, (fun h => by cases h), ?_⟩; clear hR hX R)
  (refine mix_one (by first | rfl | (go_simp; done)) (fun R hR hX => ?_))
  go_wp2_with fail
  refine HSA.out.1.mono ?_
  rintro e wD ⟨rfl, hbD⟩
  have hbCD := HSA.out.2.trans (hbD.mono HSA.out.2.size)
  have HD := Lib.hid (⟨HC.out.1.below hbCD, ownN_below HC.out.2.2.2.1 hbCD, rown_below HC.out.2.2.2.2.1 hbCD, HC.out.2.2.2.2.2.trans (hbCD.mono HC.out.2.2.2.2.2.size)⟩ : _ ∧ _ ∧ _ ∧ _)
  clear hbD hbCD HSA
  go_wp2_with fail
  ((try simp only [wpList]); refine hR _ _ rfl ⟨fun w' => w' = _, rfl, (fun h => by cases h), ?_⟩; clear hR hX R)
  (repeat (first | (refine mix_pure (fun hne K hK => ?_); go_simp; refine hK _ ?_; clear hK K hne) | (refine mix_load ?_ (fun K hK => ?_); (focus (first | rfl | (go_simp; done))); go_simp; refine hK _ ?_; clear hK K) | (refine mix_skip ?_ (fun K hK => ?_); (focus (first | rfl | (go_simp; done))); go_simp; refine hK _ ?_; clear hK K)))
  refine mix_done ?_
  clear HC
  go_wp2_with fail
  go_loopw [15] (fun i wr => ∃ j : Nat, j ≤ 1 ∧ i = .int .i64 j ∧ Below wD.heap.size wD wr) (fun i _ => 1 - (intOf i).toNat)
  case atStart => exact ⟨0, by omega, rfl, Below.refl _ _⟩
  case round =>
    obtain ⟨j, hj, rfl, hbr⟩ := hrel
    by_cases hlt : j < 1
    · obtain rfl : j = 0 := by omega
      obtain ⟨b1, c1, pv1, ov1, ey, -, -, -, -, hcy, hyd, hyo⟩ := (ownN_below HD.out.2.1 hbr).1.at
      simp only [Value.slice.injEq, Option.some.injEq, Addr.mk.injEq] at ey
      obtain ⟨⟨rfl, -, -⟩, -, rfl⟩ := ey
      obtain ⟨b2, c2, pv2, ov2, ex, hx0, hx1, hxd, hxo⟩ := rown_at (rown_below HD.out.2.2.1 hbr)
      simp only [Value.slice.injEq, Option.some.injEq, Addr.mk.injEq] at ex
      obtain ⟨⟨rfl, -, -⟩, -, rfl⟩ := ex
      have hy0 := hcy 0 _ rfl
      have hy1 := hcy 1 _ rfl
      have hly := cell_lt hy0
      have hlx := cell_lt hx0
      obtain ⟨d1, m1, rfl, -, -⟩ := hyd.form
      obtain ⟨d2, m2, rfl, -, -⟩ := hyo.form
      obtain ⟨d3, m3, rfl, -, -⟩ := hxd.form
      obtain ⟨d4, m4, rfl, -, -⟩ := hxo.form
      have hs1 := rsame_calls _ _ _ _ wr.drew (hyd.below (Below.refl _ _).drew) (hxd.below (Below.refl _ _).drew)
      have hs2 := rsame_calls _ _ _ _ wr.drew (hyo.below (Below.refl _ _).drew) (hxo.below (Below.refl _ _).drew)
      rw [decide_eq_true rfl] at hs1 hs2
      have HS := Lib.hid (⟨hs1, hs2, hbr.trans ((Below.refl _ _).drew.mono hbr.size)⟩ : _ ∧ _ ∧ _)
      have hz1 : ((0 : Nat) : Int) = 0 := rfl
      rw [hz1]
      clear hs1 hs2 hyd hyo hxd hxo hbr hcy hj hlt hz1
      go_upto_region 15 with (fail)
      (refine wp_region_mix [0, 1, 2, 3, 4, 5, 6, 7, 8, 9, 10, 11, 12, 13, 14, 15, 16, 17, 18, 19, 20, 21, 22, 23, 24, 25] [(true, true), (true, true), (true, true), (true, true), (true, false), (true, true), (true, true), (true, true), (true, true), (true, false), (false, false), (true, true), (true, true), (true, true), (true, true), (true, true), (true, true), (true, false), (true, true), (true, true), (true, true), (true, true), (true, false), (false, false), (true, true), (true, true)] [0, 0, 3, 7, 15, 0, 0, 96, 224, 480, 1023, 2047, 4095, 8191, 8191, 32767, 65535, 131071, 8191, 8191, 794623, 1843199, 3940351, 8388607, 16777215, 33554431] _ (by kernel_rfl) (by kernel_rfl) (rfl : _ = _) ?_; simp only [pickL, List.map_cons, List.map_nil, List.getD_cons_succ, List.getD_cons_zero])
      (repeat (first | (refine mix_pure (fun hne K hK => ?_); go_simp; refine hK _ ?_; clear hK K hne) | (refine mix_load ?_ (fun K hK => ?_); (focus (first | rfl | (go_simp; done))); go_simp; refine hK _ ?_; clear hK K) | (refine mix_skip ?_ (fun K hK => ?_); (focus (first | rfl | (go_simp; done))); go_simp; refine hK _ ?_; clear hK K)))
      (refine mix_one (by first | rfl | (go_simp; done)) (fun R hR hX => ?_))
      go_wp2_with fail
      refine HS.out.1.mono ?_
      rintro e w' ⟨rfl, rfl⟩
      go_wp2_with fail
      ((try simp only [wpList]); refine hR _ _ rfl ⟨fun w' => w' = _, rfl, (fun h => by cases h), ?_⟩; clear hR hX R)
      (repeat (first | (refine mix_pure (fun hne K hK => ?_); go_simp; refine hK _ ?_; clear hK K hne) | (refine mix_load ?_ (fun K hK => ?_); (focus (first | rfl | (go_simp; done))); go_simp; refine hK _ ?_; clear hK K) | (refine mix_skip ?_ (fun K hK => ?_); (focus (first | rfl | (go_simp; done))); go_simp; refine hK _ ?_; clear hK K)))
      (refine mix_one (by first | rfl | (go_simp; done)) (fun R hR hX => ?_))
      go_wp2_with fail
      refine HS.out.2.1.mono ?_
      rintro e w' ⟨rfl, rfl⟩
      go_wp2_with fail
      ((try simp only [wpList]); refine hR _ _ rfl ⟨fun w' => w' = _, rfl, (fun h => by cases h), ?_⟩; clear hR hX R)
      (repeat (first | (refine mix_pure (fun hne K hK => ?_); go_simp; refine hK _ ?_; clear hK K hne) | (refine mix_load ?_ (fun K hK => ?_); (focus (first | rfl | (go_simp; done))); go_simp; refine hK _ ?_; clear hK K) | (refine mix_skip ?_ (fun K hK => ?_); (focus (first | rfl | (go_simp; done))); go_simp; refine hK _ ?_; clear hK K)))
      refine mix_done ?_
      go_wp2_with fail
      go_roundw
      case rel => exact ⟨1, by omega, rfl, HS.out.2.2⟩
      case measure => simp [intOf]
    · obtain rfl : j = 1 := by omega
      have HE := Lib.hid hbr
      clear hbr hlt hj
      go_upto_region 17 with (fail)
      have hyn := ownN_below HD.out.2.1 HE.out
      have hbzr := HD.out.2.2.2.trans (HE.out.mono HD.out.2.2.2.size)
      have HY := Lib.hid (⟨hyn, hbzr⟩ : _ ∧ _)
      clear hyn hbzr
      have kg0 : ∀ w', Below wz.heap.size wz w' → w'.cell? ⟨q, 0, none⟩ = some (.int .i64 3) := fun w' h => cells_at (heap_keep h HZ.out.1.geo) 0 _ rfl
      have kg1 : ∀ w', Below wz.heap.size wz w' → w'.cell? ⟨q, 1, none⟩ = some (.int .i64 b) := fun w' h => cells_at (heap_keep h HZ.out.1.geo) 1 _ rfl
      have kg2 : ∀ w', Below wz.heap.size wz w' → w'.cell? ⟨q, 2, none⟩ = some (.int .i64 4) := fun w' h => cells_at (heap_keep h HZ.out.1.geo) 2 _ rfl
      have kg3 : ∀ w', Below wz.heap.size wz w' → w'.cell? ⟨q, 3, none⟩ = some (.int .i64 256) := fun w' h => cells_at (heap_keep h HZ.out.1.geo) 3 _ rfl
      (refine wp_region_born [.soft 0, .soft 1, .soft 4, .ann 2, .ann 9, .take 2, .hard 3, .hard 5, .soft 6, .soft 7, .soft 8, .take 9, .hard 10, .soft 11] [(true, true), (true, true), (false, false), (false, false), (true, false), (false, false), (true, true), (true, true), (true, true), (false, false), (false, false), (true, true)] [0, 0, 2, 7, 0, 31, 63, 127, 127, 0, 767, 2047] (fun w' => Below wz.heap.size wz w') (BelG wz (fun b => (Value.slice (some ⟨pbA, 0, none⟩) 1 pcA).ownBlock = some b) (fun w' => OwnPageN w' wz.heap.size (Value.slice (some ⟨pbA, 0, none⟩) 1 pcA) (pagD 256 T) (pagO 256 T))) (fun b => b < wz.heap.size ∨ (Value.slice (some ⟨pbA, 0, none⟩) 1 pcA).ownBlock = some b) (by kernel_rfl) (by kernel_rfl) ?_ ?_ ?_)
      · exact BelG.good (fun _ o h => ownN_below h ((Below.refl _ _).alloc (Nat.le_refl _) o))
      · refine ⟨HY.out.2.drew, rfl, fun b hb => ?_, ownN_below HY.out.1 (Below.refl _ _).drew⟩
        obtain ⟨pv, ov, hown, -, -⟩ := HY.out.1.1
        exact (hown.lt b hb).2
      iterate 3 (first | (refine bx_pure rfl (fun KK hKK => ?_); go_simp; refine hKK _ ?_; clear hKK KK) | (refine bx_load rfl rfl ?_ (fun KK hKK => ?_); (focus (first | rfl | (go_simp; done))); apply Exists.intro; apply And.intro; (focus (intro w' hC; go_simp; exact rfl)); go_simp; refine hKK _ ?_; clear hKK KK) | (refine bx_skip rfl ?_ (fun KK hKK => ?_); (focus (first | rfl | (go_simp; done))); go_simp; refine hKK _ ?_; clear hKK KK))
      clear kg0 kg1 kg2 kg3
      iterate 2 (apply bx_ann rfl; (focus (intro w n hL hn; go_simp; (first | exact ⟨rfl, rfl⟩ | exact rfl))))
      (refine bx_take rfl rfl (fun nb1 KK hKK => ?_); go_simp; refine hKK _ ?_; clear hKK KK)
      refine bx_one rfl (by first | rfl | (go_simp; done)) (fun G wc hA R hR hX => ?_)
      obtain ⟨⟨hbc, rfl, hSl, ⟨pv, ov, hown, hrd, hro⟩, hrn⟩, hnb, hnG⟩ := hA
      obtain ⟨ig, hig, hz0, hz1, hz2⟩ := info_parts infoPg
      refine wpList_append_own _ rfl _ _ 72 rfl wz.heap.size 79 ig (.agg #[.slice none 0 0, .slice none 0 0]) 2 48 Try.underlying72 hig hz0 hz1 hz2 rfl (by decide) (.slice (some ⟨pbA, 0, none⟩) 1 pcA) 1 [pv, ov] rfl hown ⟨nb1, 0, none⟩ 1 1 [.slice none 0 0, .slice none 0 0] rfl rfl ?c1 ?c2 ?c3 ?c4 hbc.size ?_
      case c1 =>
        intro j u hu
        rw [add_plain, Nat.zero_add]
        exact cells_at hnb j u (by simpa using hu)
      case c2 => intro u hu; simp at hu; subst hu; rfl
      case c3 => unfold maxLen; omega
      case c4 => omega
      intro v2 wd hown2 hg2 _
      have hbd := below_pushed hbc hown hg2 hbc.size (Nat.le_refl _)
      have hOy : Only (fun b => (Value.slice (some ⟨pbA, 0, none⟩) 1 pcA).ownBlock = some b) wc wd := ⟨hg2.os, hg2.tape, hg2.output, hg2.size, fun b hb hn => hg2.block b hb (fun e => hn e.symm)⟩
      have hnby := rowNB_noByte hown hrn
      have hpg2 : PgAt wd v2 (pagD 256 T) (pagO 256 T) := own2_pg hown2 (hrd.only hOy hnby) (hro.only hOy hnby)
      have hOd := hOy.mono (S' := fun b => b < wz.heap.size ∨ (Value.slice (some ⟨pbA, 0, none⟩) 1 pcA).ownBlock = some b) (fun b _ h => .inr h)
      obtain ⟨b2', c2', n2', pv2', ov2', rfl, -⟩ := id hpg2
      simp only [wpList]
      refine hR _ _ rfl ⟨BelA wz (fun w' => PgAt w' (.slice (some ⟨b2', 0, none⟩) n2' c2') (pagD 256 T) (pagO 256 T)), fun b => b < wz.heap.size, BelA.good (fun w' o h => h.below ((Below.refl _ _).alloc (Nat.le_refl _) o)), ⟨hbd, rfl, hpg2⟩, hOd, fun _ h => .inl (.inl h), ?_⟩
      clear hR hX R hown2 hg2 hbd hOy hnby hpg2 hOd hbc hSl hown hrd hro hrn hnb hnG
      refine bx_one rfl (by first | rfl | (go_simp; done)) (fun G wc hA R hR hX => ?_)
      obtain ⟨hbc, rfl, hpg2⟩ := hA
      have hj := join_calls 3 b 4 256 T _ wc hpg2 HT.out.2.2.1 HT.out.2.1 HP4.out.tab.seq HT.out.2.2.2.2.2.2.2.2.1.2 (by omega)
      rw [show geoV ((3 : Nat) : Int) (b : Int) ((4 : Nat) : Int) ((256 : Nat) : Int) = .agg #[.int .i64 3, .int .i64 b, .int .i64 4, .int .i64 256] from rfl] at hj
      unfold JoinEnds at hj
      have HOP := Lib.hid hj
      clear hj hpg2
      go_wp2_with fail
      refine HOP.out.mono ?_
      rintro e wd ⟨vp3, vs3, rfl, ⟨htj, hf1, hf2⟩, hbd⟩
      obtain ⟨ap3, kp3, rfl, -, -⟩ := htj.p.form
      obtain ⟨ax3, kx3, rfl, -, -⟩ := htj.s.form
      unfold tabV Tb.cells
      go_wp2_with fail
      refine hR _ _ rfl ⟨BelG wz (SB T (.slice ap3 T.place.length kp3) (.slice ax3 T.spare.length kx3)) (fun w' => TabAt w' T (.slice ap3 T.place.length kp3) (.slice ax3 T.spare.length kx3)), _, BelG.good (fun w' o h => h.below ((Below.refl _ _).alloc (Nat.le_refl _) o)), ⟨hbc.trans (hbd.mono hbc.size), rfl, htj.sb, htj⟩, Only.new hbd _, fun b h => h.imp_right (SB.fresh hf1 hf2 b), ?_⟩
      clear hR hX R HOP hbd hbc htj hf1 hf2
      iterate 3 (first | (refine bx_pure rfl (fun KK hKK => ?_); go_simp; refine hKK _ ?_; clear hKK KK) | (refine bx_load rfl rfl ?_ (fun KK hKK => ?_); (focus (first | rfl | (go_simp; done))); apply Exists.intro; apply And.intro; (focus (intro w' hC; go_simp; exact rfl)); go_simp; refine hKK _ ?_; clear hKK KK) | (refine bx_skip rfl ?_ (fun KK hKK => ?_); (focus (first | rfl | (go_simp; done))); go_simp; refine hKK _ ?_; clear hKK KK))
      (refine bx_take rfl rfl (fun nc KK hKK => ?_); go_simp; refine hKK _ ?_; clear hKK KK)
      refine bx_last rfl rfl (by first | rfl | (go_simp; done)) (fun G wc hA R hR hX => ?_)
      obtain ⟨⟨hbc, rfl, -, htj⟩, hnb, hnG⟩ := hA
      have n0 := cells_at hnb 0 _ rfl
      have f0 := froz_at hnb 0
      have n1 := cells_at hnb 1 _ rfl
      have f1 := froz_at hnb 1
      have n2 := cells_at hnb 2 _ rfl
      have f2 := froz_at hnb 2
      have n3 := cells_at hnb 3 _ rfl
      have f3 := froz_at hnb 3
      have n4 := cells_at hnb 4 _ rfl
      have f4 := froz_at hnb 4
      simp only [List.getElem_toArray, List.getElem_cons_succ, List.getElem_cons_zero] at n0 n1 n2 n3 n4
      have hlnb := heap_lt hnb
      have hnb0 : wz.heap.size ≤ nc := by have : ¬ nc < wz.heap.size := fun h => hnG (.inl h); omega
      have hset := set5 (.int .u32 T.seq) (.slice ap3 T.place.length kp3) (.slice ax3 T.spare.length kx3) (.int .i64 T.t0) (.int .i64 T.t1) hnb
      have hput := put5 hbc nc (.int .u32 T.seq) (.slice ap3 T.place.length kp3) (.slice ax3 T.spare.length kx3) (.int .i64 T.t0) (.int .i64 T.t1) hnb0
      have htj2 := htj.away (only5 wc nc (.int .u32 T.seq) (.slice ap3 T.place.length kp3) (.slice ax3 T.spare.length kx3) (.int .i64 T.t0) (.int .i64 T.t1)) (fun b hb e => hnG (.inr (by rw [← e]; exact hb)))
      have H8 := Lib.hid (⟨hset, hput, htj2⟩ : _ ∧ _ ∧ _)
      clear hset hput hnb0 hnG hbc hnb htj htj2
      go_wp2_with fail
      (try simp only [wpList])
      refine hR _ _ rfl ⟨EndA wz (fun w' => w'.heap[nc]? = some (.cells #[.int .u32 T.seq, .slice ap3 T.place.length kp3, .slice ax3 T.spare.length kx3, .int .i64 T.t0, .int .i64 T.t1] 57 (0, 0)) ∧ TabAt w' T (.slice ap3 T.place.length kp3) (.slice ax3 T.spare.length kx3)), fun _ => False, EndA.good (fun w' o h => ⟨heap_old _ h.1, h.2.below ((Below.refl _ _).alloc (Nat.le_refl _) o)⟩), ⟨H8.out.2.1, fun _ => id, H8.out.1, H8.out.2.2⟩, fun _ h => h.elim, ?_⟩
      clear hR hX R n0 n1 n2 n3 n4 f0 f1 f2 f3 f4 hlnb H8
      (first | (refine bx_pure rfl (fun KK hKK => ?_); go_simp; refine hKK _ ?_; clear hKK KK) | (refine bx_load rfl rfl ?_ (fun KK hKK => ?_); (focus (first | rfl | (go_simp; done))); apply Exists.intro; apply And.intro; (focus (intro w' hC; go_simp; exact rfl)); go_simp; refine hKK _ ?_; clear hKK KK) | (refine bx_skip rfl ?_ (fun KK hKK => ?_); (focus (first | rfl | (go_simp; done))); go_simp; refine hKK _ ?_; clear hKK KK))
      refine bx_done (fun G wy hz => ?_)
      obtain ⟨hby, -, hny, hty⟩ := hz
      have HC := Lib.hid (⟨HZ.out.1.below hby, hny, hty⟩ : _ ∧ _ ∧ _)
      clear hby hny hty HE HD HY HZ
      have kr0 : ∀ w', Below wy.heap.size wy w' → w'.cell? ⟨r, 0, none⟩ = some (.int .u32 T.seq) := fun w' h => cells_at (heap_keep h HC.out.1.cell) 0 _ rfl
      have kr1 : ∀ w', Below wy.heap.size wy w' → w'.cell? ⟨r, 1, none⟩ = some (.slice ap T.place.length kp) := fun w' h => cells_at (heap_keep h HC.out.1.cell) 1 _ rfl
      have kr2 : ∀ w', Below wy.heap.size wy w' → w'.cell? ⟨r, 2, none⟩ = some (.slice ax T.spare.length kx) := fun w' h => cells_at (heap_keep h HC.out.1.cell) 2 _ rfl
      have kr3 : ∀ w', Below wy.heap.size wy w' → w'.cell? ⟨r, 3, none⟩ = some (.int .i64 T.t0) := fun w' h => cells_at (heap_keep h HC.out.1.cell) 3 _ rfl
      have kr4 : ∀ w', Below wy.heap.size wy w' → w'.cell? ⟨r, 4, none⟩ = some (.int .i64 T.t1) := fun w' h => cells_at (heap_keep h HC.out.1.cell) 4 _ rfl
      have kn0 : ∀ w', Below wy.heap.size wy w' → w'.cell? ⟨nc, 0, none⟩ = some (.int .u32 T.seq) := fun w' h => cells_at (heap_keep h HC.out.2.1) 0 _ rfl
      have kn1 : ∀ w', Below wy.heap.size wy w' → w'.cell? ⟨nc, 1, none⟩ = some (.slice ap3 T.place.length kp3) := fun w' h => cells_at (heap_keep h HC.out.2.1) 1 _ rfl
      have kn2 : ∀ w', Below wy.heap.size wy w' → w'.cell? ⟨nc, 2, none⟩ = some (.slice ax3 T.spare.length kx3) := fun w' h => cells_at (heap_keep h HC.out.2.1) 2 _ rfl
      have kn3 : ∀ w', Below wy.heap.size wy w' → w'.cell? ⟨nc, 3, none⟩ = some (.int .i64 T.t0) := fun w' h => cells_at (heap_keep h HC.out.2.1) 3 _ rfl
      have kn4 : ∀ w', Below wy.heap.size wy w' → w'.cell? ⟨nc, 4, none⟩ = some (.int .i64 T.t1) := fun w' h => cells_at (heap_keep h HC.out.2.1) 4 _ rfl
      have hlr := heap_lt HC.out.1.cell
      have hln := heap_lt HC.out.2.1
      go_upto_region 18 with (fail)
      (refine wp_region_mix [0, 1, 2, 3, 5, 4, 6, 7, 8, 9] [(true, true), (true, true), (true, true), (true, false), (true, false), (false, true), (false, false), (false, false), (true, true), (true, true)] [0, 1, 3, 7, 15, 7, 63, 127, 255, 511] (fun w' => Below wy.heap.size wy w') (by kernel_rfl) (by kernel_rfl) ?_ ?_; rotate_left; simp only [pickL, List.map_cons, List.map_nil, List.getD_cons_succ, List.getD_cons_zero])
      rotate_left
      focus exact (Below.refl _ _).drew
      (repeat (first | (refine mix_pure (fun hne K hK => ?_); go_simp; refine hK _ ?_; clear hK K hne) | (refine mix_load ?_ (fun K hK => ?_); (focus (first | rfl | (go_simp; done))); apply Exists.intro; apply And.intro; (focus (intro w' hC; go_simp; exact rfl)); go_simp; refine hK _ ?_; clear hK K) | (refine mix_skip ?_ (fun K hK => ?_); (focus (first | rfl | (go_simp; done))); go_simp; refine hK _ ?_; clear hK K)))
      clear kr0 kr1 kr2 kr3 kr4 kn0 kn1 kn2 kn3 kn4 hlr hln
      (refine mix_one (by first | rfl | (go_simp; done)) (fun R hR hX => ?_))
      have hof := of_calls T _ _ wy.drew (HC.out.2.2.below (Below.refl _ _).drew)
      unfold tabV Tb.cells at hof
      have HOF := Lib.hid hof
      clear hof
      go_wp2_with fail
      refine HOF.out.mono ?_
      rintro e wa ⟨va, rfl, hra, hba⟩
      have hba' : Below wy.heap.size wy wa := (Below.refl _ _).drew.trans (hba.mono (Nat.le_refl _))
      obtain ⟨va1, va2, va3, hva, -⟩ := id hra.ex
      subst hva
      have HWA := Lib.hid (⟨hra, hba'⟩ : _ ∧ _)
      unfold RTb.cells
      go_wp2_with fail
      refine hR _ _ rfl ⟨_, hba', fun _ => rfl, ?_⟩
      clear hR hX R HOF hba hba' hra
      (repeat (first | (refine mix_pure (fun hne K hK => ?_); go_simp; refine hK _ ?_; clear hK K hne) | (refine mix_load ?_ (fun K hK => ?_); (focus (first | rfl | (go_simp; done))); apply Exists.intro; apply And.intro; (focus (intro w' hC; go_simp; exact rfl)); go_simp; refine hK _ ?_; clear hK K) | (refine mix_skip ?_ (fun K hK => ?_); (focus (first | rfl | (go_simp; done))); go_simp; refine hK _ ?_; clear hK K)))
      (refine mix_one (by first | rfl | (go_simp; done)) (fun R hR hX => ?_))
      have hof := of_calls T _ _ wa (HC.out.1.tab.below HWA.out.2)
      unfold tabV Tb.cells at hof
      have HOF := Lib.hid hof
      clear hof
      go_wp2_with fail
      refine HOF.out.mono ?_
      rintro e wb ⟨vb, rfl, hrb, hbb⟩
      have hbb' := HWA.out.2.trans (hbb.mono HWA.out.2.size)
      have hsa := tsame_calls T.r T.r _ _ wb (HWA.out.1.below hbb) hrb (by show T.place.length ≤ 100000; have := HT.out.2.2.2.2.2.2.2.2.2.1; omega) (by show T.place.length ≤ 100000; have := HT.out.2.2.2.2.2.2.2.2.2.1; omega)
      rw [show sameR T.r T.r = true by simp [sameR]] at hsa
      obtain ⟨vb1, vb2, vb3, hvb, -⟩ := hrb.ex
      subst hvb
      unfold RTb.cells at hsa ⊢
      have HSA := Lib.hid (⟨hsa, hbb'⟩ : _ ∧ _)
      clear hsa hbb hbb' hrb HOF HWA
      go_wp2_with fail
      ((try simp only [wpList]); refine hR _ _ rfl ⟨fun w' => w' = _, rfl, (fun h => by cases h), ?_⟩; clear hR hX R)
      (refine mix_one (by first | rfl | (go_simp; done)) (fun R hR hX => ?_))
      go_wp2_with fail
      refine HSA.out.1.mono ?_
      rintro e wD2 ⟨rfl, hbD⟩
      have hbCD := HSA.out.2.trans (hbD.mono HSA.out.2.size)
      have HE := Lib.hid (HF.out _ (HC.out.1.bel.trans (hbCD.mono HC.out.1.bel.size)))
      clear hbD hbCD HSA
      go_wp2_with fail
      ((try simp only [wpList]); refine hR _ _ rfl ⟨fun w' => w' = _, rfl, (fun h => by cases h), ?_⟩; clear hR hX R)
      (repeat (first | (refine mix_pure (fun hne K hK => ?_); go_simp; refine hK _ ?_; clear hK K hne) | (refine mix_load ?_ (fun K hK => ?_); (focus (first | rfl | (go_simp; done))); go_simp; refine hK _ ?_; clear hK K) | (refine mix_skip ?_ (fun K hK => ?_); (focus (first | rfl | (go_simp; done))); go_simp; refine hK _ ?_; clear hK K)))
      refine mix_done ?_
      go_wp2_with fail
      exact HE.out

set_option maxRecDepth 100000 in
theorem walk {H : Type} (enc : TypeId × Value → H) (W : World) (base : Nat) (v0 : Value) (d0 : DataW H) (p0 : List MemPlace)
    (hv0 : Value.okWide Try.prog W .any base 68 v0) (h0 : DataW.Trod enc Try.prog W 0 (fun _ => true) true 68 v0 d0 p0)
    (_hsz : (DataW.weightsEach Try.prog [68] [d0]).all (· ≤ reachBytes) = true) :
    Calls Try.prog 6 #[v0] W fun e W' => e = .returned (.bool true) ∧ Below W.heap.size W W' := by
  obtain ⟨blocks, turn, spare, seq, rfl, h1⟩ := open_rplains h0 hv0
  exact law blocks turn spare seq W h1
end Go.Proofs.Ytogejjbclimjjaa.lawRemapPlains
