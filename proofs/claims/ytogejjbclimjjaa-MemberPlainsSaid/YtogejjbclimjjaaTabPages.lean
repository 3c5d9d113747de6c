/- remap.Table.Pages. -/
--only r2
import Derived.Test.YtogejjbclimjjaaTabEnc
import Derived.Test.YtogejjbclimjjaaSeal
import Derived.Deep.DeepCutAuto
namespace Go.Proofs.Ytogejjbclimjjaa
set_option linter.unusedVariables false
set_option linter.unusedSimpArgs false
open Go.RowKit

def hdrT (T : Tb) : Hdr := ⟨1, T.seq, 0, 0, 1, 0, 0⟩
theorem hdrT_ok {T : Tb} (h : T.seq < 4294967296) : (hdrT T).Ok := ⟨by show 1 < 256; decide, h, by show 0 < 4294967296; decide, by show 0 < 65536; decide, by show 1 < 65536; decide, by show 0 < 4294967296; decide, by show 0 < 4294967296; decide⟩
def pagD (s : Nat) (T : Tb) : List UInt8 := encB T ++ List.replicate (s - (encB T).length) 0
def pagO (s : Nat) (T : Tb) : List UInt8 := sealB (hdrT T) (pagD s T) []
/-- one page, a row of the call's own -/
def OwnPage (w : World) (B : Nat) (x : Value) (d o : List UInt8) : Prop := ∃ pv ov, w.ownsRow B 79 2 x 1 [pv, ov] ∧ RB w pv d ∧ RB w ov o
/-- .. and its block holds no byte -/
def OwnPageN (w : World) (B : Nat) (x : Value) (d o : List UInt8) : Prop := OwnPage w B x d o ∧ RowNB w x
def PagesEnds (b s : Nat) (T : Tb) (w : World) (e : Ending) (w' : World) : Prop :=
  Below w.heap.size w w' ∧ (T.Ok b ∧ (∃ x, e = .returned (.tuple #[x, .int .i64 0]) ∧ OwnPageN w' w.heap.size x (pagD s T) (pagO s T)) ∨ ¬ T.Ok b ∧ e = .returned (.tuple #[.slice none 0 0, .int .i64 62]))
theorem infoPg : (Try.prog.info? 79).map (fun i => (i.zero, i.size, i.bytes)) = some (some (.agg #[.slice none 0 0, .slice none 0 0]), 2, 48) := by kernel_rfl

set_option maxRecDepth 100000 in
set_option maxHeartbeats 1000000 in
theorem pages_calls (c b p s : Nat) (T : Tb) (vp vs : Value) (w : World) (hT : TabAt w T vp vs) (hg : geoOk c b p s) (hpl : T.place.length ≤ 1000) (hsl : T.spare.length ≤ 1000) :
    Calls Try.prog 31 #[tabV T vp vs, geoV c b p s] w (PagesEnds b s T w) := by
  have hyes : T.Ok b → ∀ x w', OwnPageN w' w.heap.size x (pagD s T) (pagO s T) → Below w.heap.size w w' → PagesEnds b s T w (.returned (.tuple #[x, .int .i64 0])) w' := fun h x w' h1 hb => ⟨hb, .inl ⟨h, x, rfl, h1⟩⟩
  have hno : ¬ T.Ok b → ∀ w', Below w.heap.size w w' → PagesEnds b s T w (.returned (.tuple #[.slice none 0 0, .int .i64 62])) w' := fun h w' hb => ⟨hb, .inr ⟨h, rfl⟩⟩
  generalize PagesEnds b s T w = Post at hyes hno ⊢
  have HY := Lib.hid hyes
  have HN := Lib.hid hno
  clear hyes hno
  obtain ⟨w2, hw2⟩ : ∃ w2, w2 = (w.alloc (.cells (T.cells vp vs) 57)).alloc (.cells #[.int .i64 c, .int .i64 b, .int .i64 p, .int .i64 s] 28) := ⟨_, rfl⟩
  obtain ⟨q, hq⟩ : ∃ q, q = w.heap.size := ⟨_, rfl⟩
  have hal : Below w.heap.size w w2 := by rw [hw2]; exact ((Below.refl w.heap.size w).alloc (Nat.le_refl _) _).alloc (by simp) _
  have hQ : w2.heap[q]? = some (.cells (T.cells vp vs) 57 (0, 0)) := by rw [hw2]; exact heap_old _ (heap_is hq)
  have hG : w2.heap[q + 1]? = some (.cells #[.int .i64 c, .int .i64 b, .int .i64 p, .int .i64 s] 28 (0, 0)) := by rw [hw2]; exact heap_is (by simp [hq])
  obtain ⟨ap, cp, rfl, hp1, hp2⟩ := hT.p.form
  obtain ⟨ax, cx, rfl, hq1, hq2⟩ := hT.s.form
  have hen := encode_calls c b p s T _ _ w2 (hT.below hal) hg hpl hsl
  unfold tabV at hen
  unfold Tb.cells at hw2 hQ hen
  have HW := Lib.hid hw2
  have p0 := cells_at hQ 0 _ rfl
  have p1 := cells_at hQ 1 _ rfl
  have p2 := cells_at hQ 2 _ rfl
  have p3 := cells_at hQ 3 _ rfl
  have p4 := cells_at hQ 4 _ rfl
  have k0 := cells_at hG 0 _ rfl
  have k1 := cells_at hG 1 _ rfl
  have k2 := cells_at hG 2 _ rfl
  have k3 := cells_at hG 3 _ rfl
  simp only [List.getElem_toArray, List.getElem_cons_succ, List.getElem_cons_zero] at p0 p1 p2 p3 p4 k0 k1 k2 k3
  have hlg := heap_lt hG
  have hlq := heap_lt hQ
  have hseq := hT.seq
  have HEN := Lib.hid hen
  have HX := Lib.hid (⟨hal, hQ, hG⟩ : _ ∧ _ ∧ _)
  have HQW := Lib.hid hq
  obtain ⟨g1, g2, g3, g4, g5, g6, g7, g8, -⟩ := hg
  clear hal hQ hG hT hen hw2
  unfold tabV Tb.cells
  go_enter Try.func31, Try.ntmps31
  go_upto_region 1 with (fail)
  rw [← HW.out, ← hq]
  clear hq HW
  go_wp2_with fail
  refine HEN.out.mono ?_
  rintro e w3 ⟨hb3, hcase⟩
  have hB3 := HX.out.1.trans (hb3.mono HX.out.1.size)
  rcases hcase with ⟨hok, x6, rfl, hx6⟩ | ⟨hno, rfl⟩
  rotate_left
  · have HE := Lib.hid (HN.out hno w3 hB3)
    clear hno hB3 hb3 p0 p1 p2 p3 p4 k0 k1 k2 k3 hlg hlq HEN HX
    go_wp2_with fail
    exact HE.out
  · obtain ⟨a6, k6, rfl⟩ := own_slice hx6
    have hlen := hok.len
    have hel := encB_length T
    have hG3 := heap_keep hb3 HX.out.2.2
    have hQ3 := heap_keep hb3 HX.out.2.1
    clear p0 p1 p2 p3 p4 k0 k1 k2 k3 hlg hlq HEN
    obtain ⟨Ln, hLn⟩ : ∃ n, n = (encB T).length := ⟨_, rfl⟩
    have hL70 : Ln ≤ 72 := by omega
    have hL1 : 1 ≤ Ln := by omega
    have k3 : ∀ w' : World, w'.heap[q + 1]? = some (.cells #[.int .i64 c, .int .i64 b, .int .i64 p, .int .i64 s] 28 (0, 0)) → w'.cell? ⟨q + 1, 3, none⟩ = some (.int .i64 s) := fun w' h => cells_at h 3 _ rfl
    have k3a := k3 w3 hG3
    have hlg := heap_lt hG3
    have hdiv : ((Ln : Int) + (s : Int) - 1).tdiv (s : Int) = 1 := by
      rw [Int.tdiv_eq_ediv_of_nonneg (by omega)]
      have h1 : ((Ln : Int) + (s : Int) - 1) = ((Ln : Int) - 1) + 1 * (s : Int) := by omega
      rw [h1, Int.add_mul_ediv_right _ _ (by omega), Int.ediv_eq_zero_of_lt (by omega) (by omega)]; rfl
    rw [← hLn] at hx6
    have hx6' : RB w3 (.slice a6 Ln k6) (encB T) := by have := RV.own hx6; exact this
    have H3 := Lib.hid (⟨hb3, hB3, hG3, hQ3, hx6', hok, hLn⟩ : _ ∧ _ ∧ _ ∧ _ ∧ _ ∧ _ ∧ _)
    rw [← hLn]
    clear hx6 hb3 hB3 hG3 hQ3 hx6' hok hLn hel HX hlen
    go_upto_region 5 with (fail)
    clear hdiv k3a
    obtain ⟨pw, hpw⟩ : ∃ pw, pw = w3.heap.size := ⟨_, rfl⟩
    have HPW := Lib.hid hpw
    (refine wp_region_mix [0, 2, 4, 5, 6, 7, 1, 3, 8, 9, 10] [(true, true), (true, true), (true, true), (true, true), (true, false), (true, true), (false, true), (false, true), (false, false), (false, false), (true, true)] [0, 1, 0, 7, 0, 0, 32, 112, 255, 511, 1023] (fun w' => w'.heap[q + 1]? = some (.cells #[.int .i64 c, .int .i64 b, .int .i64 p, .int .i64 s] 28 (0, 0))) (by kernel_rfl) (by kernel_rfl) ?_ ?_; rotate_left; simp only [pickL, List.map_cons, List.map_nil, List.getD_cons_succ, List.getD_cons_zero])
    rotate_left
    focus exact H3.out.2.2.1
    (repeat (first | (refine mix_pure (fun hne K hK => ?_); go_simp; refine hK _ ?_; clear hK K hne) | (refine mix_load ?_ (fun K hK => ?_); (focus (first | rfl | (go_simp; done))); apply Exists.intro; apply And.intro; (focus (intro w' hC; go_simp; exact rfl)); go_simp; refine hK _ ?_; clear hK K) | (refine mix_skip ?_ (fun K hK => ?_); (focus (first | rfl | (go_simp; done))); go_simp; refine hK _ ?_; clear hK K)))
    (refine mix_one (by first | rfl | (go_simp; done)) (fun R hR hX => ?_))
    have hal4 := ((Below.refl w3.heap.size w3).drew).alloc (Nat.le_refl _) (.cells #[.slice none 0 0] 115)
    have hP4 : (w3.drew.alloc (.cells #[.slice none 0 0] 115)).heap[pw]? = some (.cells #[.slice none 0 0] 115 (0, 0)) := heap_is hpw
    have hG4 := heap_keep hal4 H3.out.2.2.1
    have hs4 : (w3.drew.alloc (.cells #[.slice none 0 0] 115)).heap.size = pw + 1 := by rw [hpw]; simp
    have hW4 : Wr (w3.drew.alloc (.cells #[.slice none 0 0] 115)) pw (pw + 1) (.slice none 0 0) [] := Wr.empty hP4 (by omega) (by omega)
    have hraw := wRaw_calls pw (pw + 1) _ (.slice a6 Ln k6) [] (encB T) _ hW4 (H3.out.2.2.2.2.1.below hal4) (by simp) (by rw [← H3.out.2.2.2.2.2.2]; omega)
    have H4 := Lib.hid (⟨hraw, hal4, hW4, hG4⟩ : _ ∧ _ ∧ _ ∧ _)
    have hpq : q + 1 < pw := by rw [hpw]; exact heap_lt H3.out.2.2.1
    clear hraw hal4 hP4 hW4 hs4
    go_wp2_with fail
    rw [← hpw]
    clear hpw
    refine hR _ _ rfl ⟨_, hG4, (fun _ => rfl), ?_⟩
    clear hR hX R
    (refine mix_one (by first | rfl | (go_simp; done)) (fun R hR hX => ?_))
    go_wp2_with fail
    refine H4.out.1.mono ?_
    rintro e w5 ⟨rfl, v5, hW5, hg5⟩
    obtain ⟨-, hal4, hW4, hG4⟩ := H4.out
    have hG5 := (hg5.keeps hW4).at hG4 (by omega)
    rw [List.nil_append] at hW5
    have hpad := wPad_calls pw (pw + 1) s v5 _ w5 hW5 (by rw [← H3.out.2.2.2.2.2.2]; omega) (by omega)
    have H5 := Lib.hid (⟨hpad, hal4, hW5, hG5, hg5.keeps hW4⟩ : _ ∧ _ ∧ _ ∧ _ ∧ _)
    clear hpad hal4 hW4 hG4 hW5 hg5 H4
    go_wp2_with fail
    refine hR _ _ rfl ⟨_, hG5, (fun _ => rfl), ?_⟩
    clear hR hX R
    (repeat (first | (refine mix_pure (fun hne K hK => ?_); go_simp; refine hK _ ?_; clear hK K hne) | (refine mix_load ?_ (fun K hK => ?_); (focus (first | rfl | (go_simp; done))); apply Exists.intro; apply And.intro; (focus (intro w' hC; go_simp; exact rfl)); go_simp; refine hK _ ?_; clear hK K) | (refine mix_skip ?_ (fun K hK => ?_); (focus (first | rfl | (go_simp; done))); go_simp; refine hK _ ?_; clear hK K)))
    (refine mix_one (by first | rfl | (go_simp; done)) (fun R hR hX => ?_))
    go_wp2_with fail
    refine H5.out.1.mono ?_
    rintro e w6 ⟨rfl, v6, hW6, hg6⟩
    obtain ⟨-, hal4, hW5, hG5, hk5⟩ := H5.out
    have hk6 := hk5.trans (hg6.keeps hW5) fun _ _ h => h
    have hwb := wBytes_calls pw (pw + 1) v6 _ w6 hW6 (by simp only [List.length_append, List.length_replicate]; have := H3.out.2.2.2.2.2.2; omega)
    have H6 := Lib.hid (⟨hwb, hal4, hk6⟩ : _ ∧ _ ∧ _)
    clear hwb hal4 hW5 hG5 hk5 hW6 hg6 hk6 H5
    go_wp2_with fail
    (try simp only [wpList]); refine hR _ _ rfl ⟨fun w' => w' = _, rfl, (fun h => by cases h), ?_⟩; clear hR hX R
    (refine mix_one (by first | rfl | (go_simp; done)) (fun R hR hX => ?_))
    go_wp2_with fail
    refine H6.out.1.mono ?_
    rintro e w7 ⟨x7, rfl, hx7, hb7⟩
    obtain ⟨a7, k7, rfl⟩ := own_slice hx7
    obtain ⟨-, hal4, hk6⟩ := H6.out
    obtain ⟨hb3, hB3, hG3, hQ3, hx6, hok, hLn⟩ := H3.out
    have hb37 : Below w3.heap.size w3 w7 := hal4.trans ((hk6.below (B := w3.heap.size) (by have := hal4.size; exact this) (fun x hx e => by have := HPW.out; omega)).trans (hb7.mono (by have := hk6.size; have := hal4.size; omega)))
    have hD : encB T ++ List.replicate (s - (encB T).length) 0 = pagD s T := rfl
    rw [hD] at hx7
    have hDl : (pagD s T).length = s := by unfold pagD; rw [List.length_append, List.length_replicate]; omega
    rw [hDl] at hx7
    have hx7' : RB w7 (.slice a7 s k7) (pagD s T) := by have := RV.own hx7; exact this
    have H7 := Lib.hid (⟨hb37, hB3.trans (hb37.mono hB3.size), heap_keep hb37 hG3, heap_keep hb37 hQ3, hx7', hok, hDl⟩ : _ ∧ _ ∧ _ ∧ _ ∧ _ ∧ _ ∧ _)
    rw [hD, hDl]
    clear hal4 hk6 hb3 hB3 hG3 hQ3 hx6 hok hLn hb37 hx7 hb7 hx7' H6 H3 hD hDl
    go_wp2_with fail
    (try simp only [wpList]); refine hR _ _ rfl ⟨fun w' => w' = _, rfl, (fun h => by cases h), ?_⟩; clear hR hX R
    (repeat (first | (refine mix_pure (fun hne K hK => ?_); go_simp; refine hK _ ?_; clear hK K hne) | (refine mix_load ?_ (fun K hK => ?_); (focus (first | rfl | (go_simp; done))); go_simp; refine hK _ ?_; clear hK K) | (refine mix_skip ?_ (fun K hK => ?_); (focus (first | rfl | (go_simp; done))); go_simp; refine hK _ ?_; clear hK K)))
    refine mix_done ?_
    go_wp2_with fail
    obtain ⟨iu, hiu, hu0, hu1, hu2⟩ := info_parts infoU8
    obtain ⟨ig, hig, hz0, hz1, hz2⟩ := info_parts infoPg
    have hk7 : s ≤ k7 := by
      obtain ⟨a, cp', e, h1, -⟩ := H7.out.2.2.2.2.1.form
      rw [H7.out.2.2.2.2.2.2] at e h1
      simp only [Value.slice.injEq] at e
      omega
    obtain ⟨ac, kc, hcv⟩ : ∃ a k, cutV a7 k7 0 s = .slice a s k := ⟨_, _, by unfold cutV; rw [Nat.sub_zero]⟩
    have hcut : ∀ w, (Instr.sliceAt 23 (.slice a7 s k7) (some (.int .i64 0)) (some (.int .i64 s)) none).run Try.prog w = .ok (.slice ac s kc) w := fun w => by
      have := run_cut (P := Try.prog) Try.underlying23 hiu hu1 a7 s k7 0 s (by omega) hk7 w
      rw [hcv] at this
      exact this
    have hcrb : RB w7 (.slice ac s kc) (pagD s T) := by
      have := RV.cut H7.out.2.2.2.2.1 (i := 0) (j := s) (by omega) (by rw [List.length_map, H7.out.2.2.2.2.2.2]; exact Nat.le_refl _)
      rw [hcv, List.drop_zero, Nat.sub_zero, List.take_of_length_le (by rw [List.length_map, H7.out.2.2.2.2.2.2]; exact Nat.le_refl _)] at this
      exact this
    have HCR := Lib.hid hcrb
    clear hcrb hcv
    go_loopw [9, 42] (fun x9 i wr => (i = .int .i64 0 ∧ x9 = .slice none 0 0 ∧ wr = w7) ∨ (i = .int .i64 1 ∧ OwnPageN wr w.heap.size x9 (pagD s T) (pagO s T) ∧ Below w.heap.size w wr)) (fun _ i _ => 1 - (intOf i).toNat)
    case atStart => exact .inl ⟨rfl, rfl, rfl⟩
    case round =>
      rcases hrel with ⟨rfl, rfl, rfl⟩ | ⟨rfl, hop, hbw⟩
      · have hG7 := H7.out.2.2.1
        have hQ7 := H7.out.2.2.2.1
        have g3 := cells_at hG7 3 _ rfl
        have q0 := cells_at hQ7 0 _ rfl
        simp only [List.getElem_toArray, List.getElem_cons_succ, List.getElem_cons_zero] at g3 q0
        have hlg7 := heap_lt hG7
        have hlq7 := heap_lt hQ7
        have e16a : IntKind.u16.wrap 0 = 0 := rfl
        have e16b : IntKind.u16.wrap 1 = 1 := rfl
        have hal8 := (Below.refl wr.heap.size wr).alloc (Nat.le_refl _) (.cells #[.int .u8 1, .int .u32 T.seq, .int .u32 0, .int .u16 0, .int .u16 1, .int .u32 0, .int .u32 0] 98)
        have hse := seal_calls (hdrT T) (hdrT_ok hseq) (.slice ac s kc) (.slice none 0 0) (pagD s T) [] _ (HCR.out.below hal8) (RB.nil _) (by rw [H7.out.2.2.2.2.2.2]; omega)
        have H8 := Lib.hid (⟨hse, hal8⟩ : _ ∧ _)
        clear hG7 hQ7 hse hal8
        go_wp2_with fail
        refine H8.out.1.mono ?_
        rintro e w9 ⟨x9, rfl, hx9, hb9⟩
        have hO : sealB (hdrT T) (pagD s T) [] = pagO s T := rfl
        rw [hO] at hx9
        have hal8 := H8.out.2
        have hb89 := hal8.trans (hb9.mono hal8.size)
        have ho9 : RB w9 x9 (pagO s T) := by have := RV.own hx9; exact this
        have hd9 := HCR.out.below hb89
        obtain ⟨a9, k9, rfl⟩ := own_slice hx9
        have hB9 := H7.out.2.1.trans (hb89.mono H7.out.2.1.size)
        have H9 := Lib.hid (⟨ho9, hd9, hB9⟩ : _ ∧ _ ∧ _)
        generalize (pagO s T).length = ol at H9 ⊢
        have hsz9 := hB9.size
        clear hal8 hb89 ho9 hd9 hB9 hx9 hb9 H8 hO g3 q0 hlg7 hlq7
        go_wp2_with (at_builtin; refine wpList_append_nb _ rfl _ _ 72 rfl w.heap.size 79 ig (.agg #[.slice none 0 0, .slice none 0 0]) 2 48 Try.underlying72 hig hz0 hz1 hz2 rfl (by decide) (.slice none 0 0) 0 [] rfl (World.ownsRow_nil _ _ _ _) ⟨w9.heap.size, 0, none⟩ 1 1 [.slice ac s kc, .slice a9 ol k9] rfl rfl ?c1 ?c2 ?c3 ?c4 ?c5 (RowNB.nil _) ?c7 ?c8 ?_)
        case c7 => intro u hu; simp [Value.cells] at hu; subst hu; exact nb_slice _ _ _
        case c8 => intro u hu; simp at hu; rcases hu with rfl | rfl <;> exact nb_slice _ _ _
        case c1 =>
          intro j u hu
          rw [add_plain, Nat.zero_add]
          exact cells_at (heap_is rfl) j u (by simpa using hu)
        case c2 => intro u hu; simp at hu; rcases hu with rfl | rfl <;> rfl
        case c3 => unfold maxLen; omega
        case c4 => omega
        case c5 => first | (simp; omega) | omega
        intro v' w10 hown10 hg10 hnb10 _
        have hb10 := ((Below.refl w9.heap.size w9).alloc (Nat.le_refl _) (.cells #[.slice ac s kc, .slice a9 ol k9] 79)).trans ((below_grown_none hg10).mono (by simp))
        obtain ⟨ho9, hd9, hB9⟩ := H9.out
        (try simp only [Nat.zero_add, List.nil_append] at hown10)
        have hop : OwnPageN w10 w.heap.size v' (pagD s T) (pagO s T) := ⟨⟨_, _, hown10, hd9.below hb10, ho9.below hb10⟩, hnb10⟩
        have HZ := Lib.hid (⟨hop, hB9.trans (hb10.mono hB9.size)⟩ : _ ∧ _)
        clear hown10 hg10 hb10 hnb10 ho9 hd9 hB9 hop H9
        go_wp2_with fail
        go_roundw
        case rel => exact .inr ⟨rfl, HZ.out⟩
        case measure => simp [intOf]
      · have HE := Lib.hid (HY.out H7.out.2.2.2.2.2.1 u9 wr hop hbw)
        clear hop hbw
        go_wp2_with fail
        exact HE.out
end Go.Proofs.Ytogejjbclimjjaa
