/- remap.Join, of a page that Pages has made. -/
--only r2
import Derived.Test.YtogejjbclimjjaaTabPages
import Derived.Test.YtogejjbclimjjaaTabLaw
import Derived.Test.YtogejjbclimjjaaBornB
import Derived.Deep.DeepCutAuto
namespace Go.Proofs.Ytogejjbclimjjaa
set_option linter.unusedVariables false
set_option linter.unusedSimpArgs false
open Go.RowKit

/-- a slice of pages, the first of them known -/
def PgAt (w : World) (v : Value) (d o : List UInt8) : Prop := ∃ b cap n pv ov, v = .slice (some ⟨b, 0, none⟩) n cap ∧ 1 ≤ n ∧ n ≤ 1000 ∧ w.cell? ⟨b, 0, none⟩ = some pv ∧ w.cell? ⟨b, 1, none⟩ = some ov ∧ RB w pv d ∧ RB w ov o
theorem PgAt.below {w w' : World} {v : Value} {d o : List UInt8} (h : PgAt w v d o) (hb : Below w.heap.size w w') : PgAt w' v d o := by
  obtain ⟨b, cap, n, pv, ov, e, h1, h2, h3, h4, h5, h6⟩ := h
  exact ⟨b, cap, n, pv, ov, e, h1, h2, below_cell hb (cell_lt h3) h3, below_cell hb (cell_lt h4) h4, h5.below hb, h6.below hb⟩
def JoinEnds (T : Tb) (w : World) (e : Ending) (w' : World) : Prop :=
  ∃ vp vs, e = .returned (.tuple #[tabV T vp vs, .int .i64 0]) ∧ (TabAt w' T vp vs ∧ Fresh w.heap.size vp ∧ Fresh w.heap.size vs) ∧ Below w.heap.size w w'

set_option maxRecDepth 100000 in
set_option maxHeartbeats 1000000 in
theorem join_calls (c b p s : Nat) (T : Tb) (v : Value) (w : World) (hv : PgAt w v (pagD s T) (pagO s T)) (hg : geoOk c b p s) (hok : T.Ok b) (hsq : T.seq < 4294967296) (hb64 : b ≤ 64) (hs : s ≤ 100000) :
    Calls Try.prog 34 #[v, geoV c b p s] w (JoinEnds T w) := by
  have hfin : ∀ vp vs w', (TabAt w' T vp vs ∧ Fresh w.heap.size vp ∧ Fresh w.heap.size vs) → Below w.heap.size w w' → JoinEnds T w (.returned (.tuple #[.agg (T.cells vp vs), .int .i64 0])) w' := fun vp vs w' h1 h2 => ⟨vp, vs, rfl, h1, h2⟩
  generalize JoinEnds T w = Post at hfin ⊢
  have HF := Lib.hid hfin
  obtain ⟨bl, cap, n, pv, ov, rfl, h1, h2, h3, h4, h5, h6⟩ := hv
  have hh : opened (pagD s T) (pagO s T) = some (hdrT T) := opened_seal (hdrT_ok hsq) (Nat.le_refl _) (show 1 ≤ 6 by decide) _ _
  obtain ⟨hgd, hdt⟩ := dec_enc hok hb64 hsq (s - (encB T).length)
  have hD : encB T ++ List.replicate (s - (encB T).length) 0 = pagD s T := rfl
  rw [hD] at hgd hdt
  have hlen := hok.len
  have hel := encB_length T
  have hDl : (pagD s T).length = s := by
    obtain ⟨g1, g2, g3, g4, g5, g6, g7, g8, -⟩ := hg
    unfold pagD; rw [List.length_append, List.length_replicate]; omega
  obtain ⟨q, hq⟩ : ∃ q, q = w.heap.size := ⟨_, rfl⟩
  obtain ⟨w2, hw2⟩ : ∃ w2, w2 = (w.alloc (.cells #[.int .i64 c, .int .i64 b, .int .i64 p, .int .i64 s] 28)).alloc (.cells #[.int .u32 0, .slice none 0 0, .slice none 0 0, .int .i64 0, .int .i64 0] 57) := ⟨_, rfl⟩
  have hal : Below w.heap.size w w2 := by rw [hw2]; exact ((Below.refl w.heap.size w).alloc (Nat.le_refl _) _).alloc (by simp) _
  have hG : w2.heap[q]? = some (.cells #[.int .i64 c, .int .i64 b, .int .i64 p, .int .i64 s] 28 (0, 0)) := by rw [hw2]; exact heap_old _ (heap_is hq)
  have hQ : w2.heap[q + 1]? = some (.cells #[.int .u32 0, .slice none 0 0, .slice none 0 0, .int .i64 0, .int .i64 0] 57 (0, 0)) := by rw [hw2]; exact heap_is (by simp [hq])
  have c3 := below_cell hal (cell_lt h3) h3
  have c4 := below_cell hal (cell_lt h4) h4
  have HW := Lib.hid hw2
  have H0 := Lib.hid (⟨hal, hG, hQ, h5.below hal, h6.below hal, hh, hgd, hdt, hDl⟩ : _ ∧ _ ∧ _ ∧ _ ∧ _ ∧ _ ∧ _ ∧ _ ∧ _)
  have HQW := Lib.hid hq
  have HGE := Lib.hid hg
  have HOK := Lib.hid hok
  clear hal hG hQ hw2 h3 h4 h5 h6 hh hgd hdt hDl hD hel hlen hfin hg hok
  obtain ⟨ap, kp, rfl, hp1, hp2⟩ := H0.out.2.2.2.1.form
  obtain ⟨ao, ko, rfl, ho1, ho2⟩ := H0.out.2.2.2.2.1.form
  have hDl := H0.out.2.2.2.2.2.2.2.2
  rw [hDl] at H0 c3 hp1
  have HDL := Lib.hid hDl
  clear hDl
  generalize hol : (pagO s T).length = ol at *
  clear hol
  go_enter Try.func34, Try.ntmps34
  go_upto_region 1 with (fail)
  rw [← HW.out, ← hq]
  clear hq HW
  have hlt := cell_lt c3
  go_wp2_with fail
  go_loopw [6, 7, 8, 9] (fun x6 x7 x8 x9 wr => (x6 = .slice none 0 0 ∧ x7 = .int .i64 1 ∧ x8 = .int .u32 0 ∧ x9 = .int .i64 0 ∧ wr = w2) ∨ (x9 = .int .i64 1 ∧ x7 = .int .i64 1 ∧ x8 = .int .u32 T.seq ∧ RB wr x6 (pagD s T) ∧ Below w2.heap.size w2 wr)) (fun _ _ _ x9 _ => 1 - (intOf x9).toNat)
  case atStart => exact .inl ⟨rfl, rfl, rfl, rfl, rfl⟩
  case round =>
    rcases hrel with ⟨rfl, rfl, rfl, rfl, rfl⟩ | ⟨rfl, rfl, rfl, hb6, hbw⟩
    · go_upto_region 9 with (fail)
      have m3 : ∀ w', Below wr.heap.size wr w' → w'.cell? ⟨bl, 0, none⟩ = some (.slice ap s kp) := fun w' h => below_cell h (cell_lt c3) c3
      have m4 : ∀ w', Below wr.heap.size wr w' → w'.cell? ⟨bl, 1, none⟩ = some (.slice ao ol ko) := fun w' h => below_cell h (cell_lt c4) c4
      have h1n : 0 < n := h1
      have h1i : (0 : Int) < (n : Int) := by omega
      (refine wp_region_born [.soft 0, .soft 1, .soft 2, .soft 3, .soft 4, .soft 5, .soft 6, .soft 7, .soft 8, .soft 9, .ann 14, .hard 10, .soft 11, .soft 12, .soft 13, .take 14, .hard 15, .soft 16] [(true, true), (true, true), (true, true), (true, true), (true, false), (true, true), (true, true), (true, true), (true, true), (true, false), (false, false), (true, true), (true, true), (true, true), (false, false), (false, false), (true, true)] [0, 0, 3, 7, 15, 0, 0, 96, 224, 480, 1023, 2047, 4095, 4095, 0, 24575, 65535] (fun w' => Below wr.heap.size wr w') (BelA wr (fun _ => True)) (fun b => b < wr.heap.size) (by kernel_rfl) (by kernel_rfl) ?_ ?_ ?_)
      · exact BelA.good (fun _ _ _ => trivial)
      · exact ⟨(Below.refl _ _).drew, rfl, trivial⟩
      iterate 10 (first | (refine bx_pure rfl (fun KK hKK => ?_); go_simp; refine hKK _ ?_; clear hKK KK) | (refine bx_load rfl rfl ?_ (fun KK hKK => ?_); (focus (first | rfl | (go_simp; done))); apply Exists.intro; apply And.intro; (focus (intro w' hC; go_simp; exact rfl)); go_simp; refine hKK _ ?_; clear hKK KK) | (refine bx_skip rfl ?_ (fun KK hKK => ?_); (focus (first | rfl | (go_simp; done))); go_simp; refine hKK _ ?_; clear hKK KK))
      (apply bx_ann rfl; (focus (intro w n hL hn; go_simp; (first | exact ⟨rfl, rfl⟩ | exact rfl))))
      refine bx_one rfl (by first | rfl | (go_simp; done)) (fun G wc hA R hR hX => ?_)
      obtain ⟨hbc, rfl, -⟩ := hA
      have hop := open_calls (.slice ap s kp) (.slice ao ol ko) (pagD s T) (pagO s T) wc (H0.out.2.2.2.1.below hbc) (H0.out.2.2.2.2.1.below hbc)
      rw [H0.out.2.2.2.2.2.1] at hop
      have HOP := Lib.hid hop
      clear hop
      go_wp2_with fail
      refine HOP.out.mono ?_
      rintro e wd ⟨rfl, hbd⟩
      rw [show openedV (some (hdrT T)) = .tuple #[.agg #[.int .u8 1, .int .u32 T.seq, .int .u32 0, .int .u16 0, .int .u16 1, .int .u32 0, .int .u32 0], .bool true] from rfl]
      go_wp2_with fail
      refine hR _ _ rfl ⟨BelA wr (fun _ => True), fun b => b < wr.heap.size, BelA.good (fun _ _ _ => trivial), ⟨hbc.trans (hbd.mono hbc.size), rfl, trivial⟩, Only.new hbd _, fun _ h => .inl h, ?_⟩
      clear hR hX R HOP hbd hbc
      iterate 3 (first | (refine bx_pure rfl (fun KK hKK => ?_); go_simp; refine hKK _ ?_; clear hKK KK) | (refine bx_load rfl rfl ?_ (fun KK hKK => ?_); (focus (first | rfl | (go_simp; done))); apply Exists.intro; apply And.intro; (focus (intro w' hC; go_simp; exact rfl)); go_simp; refine hKK _ ?_; clear hKK KK) | (refine bx_skip rfl ?_ (fun KK hKK => ?_); (focus (first | rfl | (go_simp; done))); go_simp; refine hKK _ ?_; clear hKK KK))
      (refine bx_take rfl rfl (fun nb KK hKK => ?_); go_simp; refine hKK _ ?_; clear hKK KK)
      refine bx_last rfl rfl (by first | rfl | (go_simp; done)) (fun G wc hA R hR hX => ?_)
      obtain ⟨⟨hbc, rfl, -⟩, hnb, hnG⟩ := hA
      have n0 := cells_at hnb 0 _ rfl
      have f0 := froz_at hnb 0
      have n1 := cells_at hnb 1 _ rfl
      have f1 := froz_at hnb 1
      have n2 := cells_at hnb 2 _ rfl
      have f2 := froz_at hnb 2
      have n3 := cells_at hnb 3 _ rfl
      have f3 := froz_at hnb 3
      have n4 := cells_at hnb 4 _ rfl
      have f4 := froz_at hnb 4
      have n5 := cells_at hnb 5 _ rfl
      have f5 := froz_at hnb 5
      have n6 := cells_at hnb 6 _ rfl
      have f6 := froz_at hnb 6
      simp only [List.getElem_toArray, List.getElem_cons_succ, List.getElem_cons_zero] at n0 n1 n2 n3 n4 n5 n6
      have hlnb := heap_lt hnb
      have hnb0 : wr.heap.size ≤ nb := by have : ¬ nb < wr.heap.size := hnG; omega
      have hset := set7 (.int .u8 1) (.int .u32 T.seq) (.int .u32 0) (.int .u16 0) (.int .u16 1) (.int .u32 0) (.int .u32 0) hnb
      have hput := put7 hbc nb (.int .u8 1) (.int .u32 T.seq) (.int .u32 0) (.int .u16 0) (.int .u16 1) (.int .u32 0) (.int .u32 0) hnb0 (Nat.le_refl _)
      have H13 := Lib.hid (⟨hset, hput, hnb0⟩ : _ ∧ _ ∧ _)
      clear hset hput hnb0 hnG hbc hnb
      go_wp2_with fail
      (try simp only [wpList])
      refine hR _ _ rfl ⟨EndA wr (fun w' => w'.heap[nb]? = some (.cells #[.int .u8 1, .int .u32 T.seq, .int .u32 0, .int .u16 0, .int .u16 1, .int .u32 0, .int .u32 0] 98 (0, 0))), fun _ => False, EndA.good (fun w' o h => heap_old _ h), ⟨H13.out.2.1, fun _ => id, H13.out.1⟩, fun _ h => h.elim, ?_⟩
      clear hR hX R n0 n1 n2 n3 n4 n5 n6 f0 f1 f2 f3 f4 f5 f6 hlnb
      (first | (refine bx_pure rfl (fun KK hKK => ?_); go_simp; refine hKK _ ?_; clear hKK KK) | (refine bx_load rfl rfl ?_ (fun KK hKK => ?_); (focus (first | rfl | (go_simp; done))); apply Exists.intro; apply And.intro; (focus (intro w' hC; go_simp; exact rfl)); go_simp; refine hKK _ ?_; clear hKK KK) | (refine bx_skip rfl ?_ (fun KK hKK => ?_); (focus (first | rfl | (go_simp; done))); go_simp; refine hKK _ ?_; clear hKK KK))
      refine bx_done (fun G wz hz => ?_)
      obtain ⟨hbz, -, hnz⟩ := hz
      have n0 := cells_at hnz 0 _ rfl
      have n1 := cells_at hnz 1 _ rfl
      have n3 := cells_at hnz 3 _ rfl
      have n4 := cells_at hnz 4 _ rfl
      simp only [List.getElem_toArray, List.getElem_cons_succ, List.getElem_cons_zero] at n0 n1 n3 n4
      have hlnb := heap_lt hnz
      have m3' := m3 wz hbz
      have hltz := cell_lt m3'
      have HNZ := Lib.hid (⟨hbz, hnz⟩ : _ ∧ _)
      clear hbz hnz m3 m4
      go_upto_region 12 with (fail)
      (refine wp_region_mix [0, 1, 2, 3, 4, 5, 6] [(true, true), (true, false), (true, true), (true, true), (true, false), (true, true), (true, true)] [0, 1, 3, 0, 8, 7, 63] _ (by kernel_rfl) (by kernel_rfl) (rfl : _ = _) ?_; simp only [pickL, List.map_cons, List.map_nil, List.getD_cons_succ, List.getD_cons_zero])
      (repeat (first | (refine mix_pure (fun hne K hK => ?_); go_simp; refine hK _ ?_; clear hK K hne) | (refine mix_load ?_ (fun K hK => ?_); (focus (first | rfl | (go_simp; done))); go_simp; refine hK _ ?_; clear hK K) | (refine mix_skip ?_ (fun K hK => ?_); (focus (first | rfl | (go_simp; done))); go_simp; refine hK _ ?_; clear hK K)))
      refine mix_done ?_
      obtain ⟨iu, hiu, hu0, hu1, hu2⟩ := info_parts infoU8
      have hbz := HNZ.out.1.drew
      go_wp2_with (at_builtin; refine wpList_append_row rfl _ _ 23 rfl wz.heap.size 5 iu (.int .u8 0) 1 Try.underlying23 hiu hu0 hu1 hu2 rfl (.slice none 0 0) 0 [] rfl (World.ownsRow_nil _ _ _ _) (.slice ap s kp) ((pagD s T).map u8v) rfl ?c0 (oneCell_u8 _) ?c1 ?c2 ?c3 ?_)
      case c0 => exact H0.out.2.2.2.1.below hbz
      case c1 => rw [List.length_map, HDL.out]; simp only [maxLen]; omega
      case c2 => rw [List.length_map, HDL.out]; omega
      case c3 => exact Nat.le_refl _
      intro v6 w6 hown6 hg6 _
      have hb6 := below_grown_none hg6
      (try simp only [Nat.zero_add, List.nil_append] at hown6)
      have hr6 : RB w6 v6 (pagD s T) := RV.own hown6
      have H6 := Lib.hid (⟨hr6, hbz.trans (hb6.mono hbz.size)⟩ : _ ∧ _)
      obtain ⟨a6, k6, rfl⟩ := own_slice hown6
      clear hown6 hg6 hb6 hr6 hbz
      go_wp2_with fail
      go_roundw
      case rel => exact .inr ⟨rfl, rfl, rfl, H6.out.1, H6.out.2⟩
      case measure => simp [intOf]
    · have hG := heap_keep hbw H0.out.2.1
      have g0 := cells_at hG 0 _ rfl
      have g1 := cells_at hG 1 _ rfl
      have g2 := cells_at hG 2 _ rfl
      have g3 := cells_at hG 3 _ rfl
      simp only [List.getElem_toArray, List.getElem_cons_succ, List.getElem_cons_zero] at g0 g1 g2 g3
      have hlg := heap_lt hG
      have hde := decode_calls u6 (pagD s T) c b p s wr hb6 HGE.out
      have HDE := Lib.hid (⟨hde, hbw⟩ : _ ∧ _)
      obtain ⟨a6, k6, rfl, -, -⟩ := hb6.form
      clear hde hbw hG hb6
      go_wp2_with fail
      refine HDE.out.1.mono ?_
      rintro e w7 ⟨vp, vs, rfl, ⟨hta, hf1, hf2⟩, hb7⟩
      have hd1 : dRes b (pagD s T) = T := by unfold dRes; rw [if_pos H0.out.2.2.2.2.2.2.1]; exact H0.out.2.2.2.2.2.2.2.1
      have hd2 : dErr b (pagD s T) = 0 := by unfold dErr; rw [if_pos H0.out.2.2.2.2.2.2.1]
      rw [hd1] at hta
      rw [hd1, hd2, show ((0 : Nat) : Int) = 0 from rfl]
      have hbw7 := HDE.out.2.trans (hb7.mono HDE.out.2.size)
      have hQ7 := heap_keep hbw7 H0.out.2.2.1
      have hq2 := heap_lt H0.out.2.2.1
      have hq7 := heap_lt hQ7
      have hBw7 := H0.out.1.trans (hbw7.mono H0.out.1.size)
      have hlr : w2.heap.size ≤ wr.heap.size := HDE.out.2.size
      have HT7 := Lib.hid (⟨hta, hf1, hf2, hbw7, hQ7, hBw7, hq2, hlr⟩ : _ ∧ _ ∧ _ ∧ _ ∧ _ ∧ _ ∧ _ ∧ _)
      have f0 := froz_at hQ7 0
      have f1 := froz_at hQ7 1
      have f2 := froz_at hQ7 2
      have f3 := froz_at hQ7 3
      have f4 := froz_at hQ7 4
      have e0 := cells_at hQ7 0 _ rfl
      have e1 := cells_at hQ7 1 _ rfl
      have e2 := cells_at hQ7 2 _ rfl
      have e3 := cells_at hQ7 3 _ rfl
      have e4 := cells_at hQ7 4 _ rfl
      simp only [List.getElem_toArray, List.getElem_cons_succ, List.getElem_cons_zero] at e0 e1 e2 e3 e4
      obtain ⟨apx, kpx, rfl, -, -⟩ := hta.p.form
      obtain ⟨asx, ksx, rfl, -, -⟩ := hta.s.form
      have hset := set5 (.int .u32 T.seq) (.slice apx T.place.length kpx) (.slice asx T.spare.length ksx) (.int .i64 T.t0) (.int .i64 T.t1) hQ7
      have hput := put5 hBw7 (q + 1) (.int .u32 T.seq) (.slice apx T.place.length kpx) (.slice asx T.spare.length ksx) (.int .i64 T.t0) (.int .i64 T.t1) (by rw [HQW.out]; omega)
      have hon : Only (fun x => x = q + 1) w7 (((((w7.setCell ⟨q + 1, 0, none⟩ (.int .u32 T.seq)).setCell ⟨q + 1, 1, none⟩ (.slice apx T.place.length kpx)).setCell ⟨q + 1, 2, none⟩ (.slice asx T.spare.length ksx)).setCell ⟨q + 1, 3, none⟩ (.int .i64 T.t0)).setCell ⟨q + 1, 4, none⟩ (.int .i64 T.t1)) :=
        ((((Only.of_set w7 ⟨q + 1, 0, none⟩ (.int .u32 T.seq)).set ⟨q + 1, 1, none⟩ (.slice apx T.place.length kpx) fun _ => rfl).set ⟨q + 1, 2, none⟩ (.slice asx T.spare.length ksx) fun _ => rfl).set ⟨q + 1, 3, none⟩ (.int .i64 T.t0) fun _ => rfl).set ⟨q + 1, 4, none⟩ (.int .i64 T.t1) fun _ => rfl
      have hta2 := hta.fresh hf1 hf2 hon (fun x hx => by omega)
      have hwl : w.heap.size ≤ wr.heap.size := Nat.le_trans H0.out.1.size hlr
      have hend := HF.out (.slice apx T.place.length kpx) (.slice asx T.spare.length ksx) _ ⟨hta2.below ((Below.refl _ _).alloc (Nat.le_refl _) (.cells (T.cells (.slice apx T.place.length kpx) (.slice asx T.spare.length ksx)) 57)), fun b o n c e => Nat.le_trans hwl (hf1 b o n c e), fun b o n c e => Nat.le_trans hwl (hf2 b o n c e)⟩ (hput.alloc hput.size _)
      have HX := Lib.hid (⟨hend, heap_old (.cells (T.cells (.slice apx T.place.length kpx) (.slice asx T.spare.length ksx)) 57) hset⟩ : _ ∧ _)
      clear hset hput hon hta2 hwl hend
      unfold tabV
      unfold Tb.cells at HX ⊢
      clear hta hf1 hf2 hbw7 hQ7 hBw7 hb7 hd1 hd2 HDE hlr hq2 g0 g1 g2 g3 hlg HT7
      go_wp2_with fail
      refine bodyPost_ret (res_ct rfl rfl HX.out.2 Try.underlying57 rfl (by kernel_rfl)) rfl HX.out.1
end Go.Proofs.Ytogejjbclimjjaa
