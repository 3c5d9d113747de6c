/- Layer 6's answer: Pages. -/
--only r2
import Derived.Test.YtogejjbclimjjaaRSeal
import Derived.Test.YtogejjbclimjjaaTabPages
namespace Go.Proofs.Ytogejjbclimjjaa
set_option linter.unusedVariables false
set_option linter.unusedSimpArgs false
open Go.RowKit

/-- one page, a row of the call's own -/
def ROwnPage (w : World) (B : Nat) (x : Value) (d o : List UInt8) : Prop := ∃ pv ov, w.ownsRow B 80 2 x 1 [pv, ov] ∧ RB w pv d ∧ RB w ov o
theorem infoRPg : (Try.prog.info? 80).map (fun i => (i.zero, i.size, i.bytes)) = some (some (.agg #[.slice none 0 0, .slice none 0 0]), 2, 48) := by kernel_rfl

set_option maxRecDepth 100000 in
set_option maxHeartbeats 1000000 in
theorem rpages_calls (T : Tb) (v : Value) (n : Nat) (w : World) (hR : RTabAt w T.r v) (hok : T.Ok n) (hn : n ≤ 64) (hseq : T.seq < 4294967296) :
    Calls Try.prog 32 #[v, .int .i64 256] w fun e w' => ∃ x, e = .returned x ∧ ROwnPage w' w.heap.size x (pagD 256 T) (pagO 256 T) ∧ Below w.heap.size w w' := by
  have hfin : ∀ x w', ROwnPage w' w.heap.size x (pagD 256 T) (pagO 256 T) → Below w.heap.size w w' → (fun e w' => ∃ x, e = Ending.returned x ∧ ROwnPage w' w.heap.size x (pagD 256 T) (pagO 256 T) ∧ Below w.heap.size w w') (.returned x) w' := fun x w' h1 h2 => ⟨x, rfl, h1, h2⟩
  generalize (fun e w' => ∃ x, e = Ending.returned x ∧ ROwnPage w' w.heap.size x (pagD 256 T) (pagO 256 T) ∧ Below w.heap.size w w') = Post at hfin ⊢
  have HF := Lib.hid hfin
  obtain ⟨iu, hiu, hu0, hu1, hu2⟩ := info_parts infoU8
  obtain ⟨ig, hig, hz0, hz1, hz2⟩ := info_parts infoRPg
  obtain ⟨v1, v2, v3, rfl, hp1, hs1, ht1⟩ := id hR.ex
  obtain ⟨a1, c1, rfl, -, -⟩ := hp1.form
  obtain ⟨a2, c2, rfl, -, -⟩ := hs1.form
  obtain ⟨a3, c3, rfl, -, -⟩ := ht1.form
  have hlen := hok.len
  have hel := encB_length T
  have hpL : T.r.place.length = T.place.length := rfl
  obtain ⟨Ln, hLn⟩ : ∃ n, n = (encB T).length := ⟨_, rfl⟩
  have hL70 : Ln ≤ 72 := by omega
  have hL1 : 1 ≤ Ln := by omega
  obtain ⟨q, hq⟩ : ∃ q, q = w.heap.size := ⟨_, rfl⟩
  obtain ⟨w1, hw1⟩ : ∃ w1, w1 = w.alloc (.cells (T.r.cells (.slice a1 T.r.place.length c1) (.slice a2 T.r.spare.length c2) (.slice a3 T.r.tabs.length c3)) 60) := ⟨_, rfl⟩
  have hb1 : Below w.heap.size w w1 := by rw [hw1]; exact (Below.refl _ _).alloc (Nat.le_refl _) _
  have hQ1 : w1.heap[q]? = some (.cells (T.r.cells (.slice a1 T.r.place.length c1) (.slice a2 T.r.spare.length c2) (.slice a3 T.r.tabs.length c3)) 60 (0, 0)) := by rw [hw1]; exact heap_is hq
  have hre := rencode_calls T _ n w1 (hR.below hb1) hok hn hseq
  unfold RTb.cells at hw1 hQ1 hre
  rw [← hLn] at hre
  have HX := Lib.hid (⟨hre, hb1, hQ1, hLn, hseq⟩ : _ ∧ _ ∧ _ ∧ _ ∧ _)
  have HW1 := Lib.hid hw1
  have t0 := cells_at hQ1 0 _ rfl
  have t1 := cells_at hQ1 1 _ rfl
  have t2 := cells_at hQ1 2 _ rfl
  have t3 := cells_at hQ1 3 _ rfl
  simp only [List.getElem_toArray, List.getElem_cons_succ, List.getElem_cons_zero] at t0 t1 t2 t3
  have hlq := heap_lt hQ1
  clear hre hb1 hQ1 hw1 hR hp1 hs1 ht1 hfin hLn hel hlen hok hpL
  unfold RTb.cells
  generalize T.r.place.length = l1 at *
  generalize T.r.spare.length = l2 at *
  generalize T.r.tabs.length = l3 at *
  go_enter Try.func32, Try.ntmps32
  go_upto_region 1 with (fail)
  rw [← hq, ← HW1.out]
  clear hq HW1
  go_wp2_with fail
  refine HX.out.1.mono ?_
  rintro e w2 ⟨x2, rfl, hx2, hb2⟩
  obtain ⟨a6, k6, rfl⟩ := own_slice hx2
  have hx6 : RB w2 (.slice a6 Ln k6) (encB T) := by have := RV.own hx2; exact this
  have hQ2 := heap_keep hb2 HX.out.2.2.1
  have hB2 := HX.out.2.1.trans (hb2.mono HX.out.2.1.size)
  have hpad := pad_calls _ (encB T) 256 w2 hx6 (by rw [← HX.out.2.2.2.1]; omega) (by omega)
  rw [show ((256 : Nat) : Int) = 256 from rfl, show encB T ++ List.replicate (256 - (encB T).length) 0 = pagD 256 T from rfl] at hpad
  have hDl : (pagD 256 T).length = 256 := by unfold pagD; rw [List.length_append, List.length_replicate, ← HX.out.2.2.2.1]; omega
  rw [hDl] at hpad
  have H2 := Lib.hid (⟨hpad, hQ2, hB2, hDl, HX.out.2.2.2.2⟩ : _ ∧ _ ∧ _ ∧ _ ∧ _)
  have e1 : (Ln : Int).tdiv 256 = 0 := by rw [Int.tdiv_eq_ediv_of_nonneg (by omega)]; omega
  have e2 : (Ln : Int).tmod 256 = (Ln : Int) := by rw [Int.tmod_eq_emod_of_nonneg (by omega)]; omega
  have e3 : (Ln : Int) / 256 = 0 := by omega
  have e4 : (Ln : Int) % 256 = (Ln : Int) := by omega
  have e5 : decide ((0 : Int) < (Ln : Int)) = true := by simp; omega
  have e6 : 0 < Ln := by omega
  clear hpad hQ2 hB2 hDl hx2 hx6 hb2 HX t0 t1 t2 t3 hlq
  go_wp2_with fail
  refine H2.out.1.mono ?_
  rintro e w3 ⟨x3, rfl, hx3, hb3⟩
  obtain ⟨a7, k7, rfl⟩ := own_slice hx3
  have hx7 : RB w3 (.slice a7 256 k7) (pagD 256 T) := RV.own hx3
  have hk7 : 256 ≤ k7 := by
    obtain ⟨a, cp', e, h1, -⟩ := hx7.form
    rw [H2.out.2.2.2.1] at e h1
    simp only [Value.slice.injEq] at e
    omega
  obtain ⟨ac, kc, hcv⟩ : ∃ a k, cutV a7 k7 0 256 = .slice a 256 k := ⟨_, _, by unfold cutV; rfl⟩
  have hcut : ∀ w, (Instr.sliceAt 23 (.slice a7 256 k7) (some (.int .i64 0)) (some (.int .i64 256)) none).run Try.prog w = .ok (.slice ac 256 kc) w := fun w => by
    have := run_cut (P := Try.prog) Try.underlying23 hiu hu1 a7 256 k7 0 256 (by omega) hk7 w
    rw [hcv] at this
    exact this
  have hcrb : RB w3 (.slice ac 256 kc) (pagD 256 T) := by
    have := RV.cut hx7 (i := 0) (j := 256) (by omega) (by rw [List.length_map, H2.out.2.2.2.1]; exact Nat.le_refl _)
    rw [hcv, List.drop_zero, Nat.sub_zero, List.take_of_length_le (by rw [List.length_map, H2.out.2.2.2.1]; exact Nat.le_refl _)] at this
    exact this
  have hQ3 := heap_keep hb3 H2.out.2.1
  have hB3 := H2.out.2.2.1.trans (hb3.mono H2.out.2.2.1.size)
  have H3 := Lib.hid (⟨hcrb, hQ3, hB3, H2.out.2.2.2.1, H2.out.2.2.2.2⟩ : _ ∧ _ ∧ _ ∧ _ ∧ _)
  clear hcrb hcv hx7 hx3 hb3 hQ3 hB3 H2 e1 e2 e3 e4 e5 e6
  go_wp2_with fail
  go_loopw [7, 8, 9] (fun x7 i x9 wr => (i = .int .i64 0 ∧ x7 = .slice none 0 0 ∧ wr = w3) ∨ (i = .int .i64 1 ∧ ROwnPage wr w.heap.size x7 (pagD 256 T) (pagO 256 T) ∧ Below w.heap.size w wr)) (fun _ i _ _ => 1 - (intOf i).toNat)
  case atStart => exact .inl ⟨rfl, rfl, rfl⟩
  case round =>
    rcases hrel with ⟨rfl, rfl, rfl⟩ | ⟨rfl, hop, hbw⟩
    · have q0 := cells_at H3.out.2.1 0 _ rfl
      simp only [List.getElem_toArray, List.getElem_cons_succ, List.getElem_cons_zero] at q0
      have hlq7 := heap_lt H3.out.2.1
      have hse := rseal_nil (hdrT T) (hdrT_ok H3.out.2.2.2.2) (.slice ac 256 kc) (pagD 256 T) wr H3.out.1 (by rw [H3.out.2.2.2.1]; omega)
      rw [show sealB (hdrT T) (pagD 256 T) [] = pagO 256 T from rfl] at hse
      have H8 := Lib.hid hse
      clear hse
      go_wp2_with fail
      refine H8.out.mono ?_
      rintro e w9 ⟨x9, rfl, hx9, hb9⟩
      have ho9 : RB w9 x9 (pagO 256 T) := RV.own hx9
      have hd9 := H3.out.1.below hb9
      obtain ⟨a9, k9, rfl⟩ := own_slice hx9
      have hB9 := H3.out.2.2.1.trans (hb9.mono H3.out.2.2.1.size)
      have H9 := Lib.hid (⟨ho9, hd9, hB9⟩ : _ ∧ _ ∧ _)
      have hsz9 := hB9.size
      clear ho9 hd9 hB9 hx9 hb9 H8 q0 hlq7
      go_wp2_with (at_builtin; refine wpList_append_own _ rfl _ _ 75 rfl w.heap.size 80 ig (.agg #[.slice none 0 0, .slice none 0 0]) 2 48 Try.underlying75 hig hz0 hz1 hz2 rfl (by decide) (.slice none 0 0) 0 [] rfl (World.ownsRow_nil _ _ _ _) ⟨w9.heap.size, 0, none⟩ 1 1 [.slice ac 256 kc, .slice a9 64 k9] rfl rfl ?c1 ?c2 ?c3 ?c4 ?c5 ?_)
      case c1 =>
        intro j u hu
        rw [add_plain, Nat.zero_add]
        exact cells_at (heap_is rfl) j u (by simpa using hu)
      case c2 => intro u hu; simp at hu; rcases hu with rfl | rfl <;> rfl
      case c3 => unfold maxLen; omega
      case c4 => omega
      case c5 => first | (simp; omega) | omega
      intro v' w10 hown10 hg10 _
      have hb10 := ((Below.refl w9.heap.size w9).alloc (Nat.le_refl _) (.cells #[.slice ac 256 kc, .slice a9 64 k9] 80)).trans ((below_grown_none hg10).mono (by simp))
      obtain ⟨ho9, hd9, hB9⟩ := H9.out
      (try simp only [Nat.zero_add, List.nil_append] at hown10)
      have hop : ROwnPage w10 w.heap.size v' (pagD 256 T) (pagO 256 T) := ⟨_, _, hown10, hd9.below hb10, ho9.below hb10⟩
      have HZ := Lib.hid (⟨hop, hB9.trans (hb10.mono hB9.size)⟩ : _ ∧ _)
      clear hown10 hg10 hb10 ho9 hd9 hB9 hop H9
      go_wp2_with fail
      go_roundw
      case rel => exact .inr ⟨rfl, HZ.out⟩
      case measure => simp [intOf]
    · have HE := Lib.hid (HF.out _ wr hop hbw)
      clear hop hbw
      go_wp2_with fail
      exact HE.out
end Go.Proofs.Ytogejjbclimjjaa
