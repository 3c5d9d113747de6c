/- NandNils: the walk. -/
--only r2
import Derived.Test.YtphnjiokihbhnaaNandNil
import Derived.Test.YtphnjiokihbhnaaNandLaw
import Derived.Test.YtphnjiokihbhnaaOpenI
import Derived.Deep.DeepCutAuto
namespace Go.Proofs.Ytphnjiokihbhnaa.lawNandNils
set_option linter.unusedVariables false
set_option linter.unusedSimpArgs false
open Go.RowKit Go.ChangeShapes Go.WideShapes

theorem infoEvent : (Try.prog.info? 92).map (fun i => (i.zero, i.size, i.bytes)) = some (some (.agg #[.int .i64 0, .int .i64 0, .int .i64 0, .slice none 0 0]), 4, 48) := by kernel_rfl

theorem evN {wc : World} {mb : Nat} (m : Nat) (hm : m ≤ 1000) (hmb : wc.heap[mb]? = some (.cells (madeCells #[.int .i64 0, .int .i64 0, .int .i64 0, .slice none 0 0] (m * 4)) 92 (0, 0))) : REv wc (some ⟨mb, 0, none⟩) m (List.replicate m Ev.zero) (fun _ => True) := by
  refine ⟨by simp, by unfold maxLen; omega, (fun h => by cases h), .inr ⟨mb, 0, rfl, trivial, fun i hi => ?_⟩⟩
  have hi' : i < m := by simpa using hi
  have hg := fun j (hj : j < 4) => made_get #[Value.int .i64 0, .int .i64 0, .int .i64 0, .slice none 0 0] (m * 4) (i * 4 + j) (by omega) (by decide)
  refine ⟨.slice none 0 0, ?_, ?_, ?_, ?_, ?_⟩
  · have := hg 0 (by omega); rw [Nat.zero_add]; refine cells_at hmb _ _ (this.trans ?_); simp [Ev.zero]
  · have := hg 1 (by omega); rw [Nat.zero_add]; refine cells_at hmb _ _ (this.trans ?_); simp [Ev.zero, Nat.mul_add_mod, Nat.add_mod]
  · have := hg 2 (by omega); rw [Nat.zero_add]; refine cells_at hmb _ _ (this.trans ?_); simp [Ev.zero, Nat.mul_add_mod, Nat.add_mod]
  · have := hg 3 (by omega); rw [Nat.zero_add]; refine cells_at hmb _ _ (this.trans ?_); simp [Ev.zero, Nat.mul_add_mod, Nat.add_mod]
  · rw [List.getElem_replicate]; exact RB.nil _
theorem ev201Ok : evsOk (List.replicate 201 Ev.zero) := fun x hx => by
  rw [List.eq_of_mem_replicate hx]
  simp only [Ev.zero]
  exact ⟨by simp, ⟨by omega, by omega⟩, ⟨by omega, by omega⟩, ⟨by omega, by omega⟩⟩

set_option maxRecDepth 100000 in
set_option maxHeartbeats 4000000 in
theorem law (c b p s n : Int) (w : World) (hc : I64 c) (hb : I64 b) (hp : I64 p) (hs : I64 s) (hn : I64 n) :
    Calls Try.prog 6 #[geoV c b p s, .int .i64 n] w (IsTrue w) := by
  have hfin : ∀ w', Below w.heap.size w w' → IsTrue w (.returned (.bool true)) w' := fun w' h => ⟨rfl, h⟩
  generalize IsTrue w = Post at hfin ⊢
  have HF := Lib.hid hfin
  clear hfin
  have hal := (Below.refl w.heap.size w).alloc (Nat.le_refl _) (.cells #[.int .i64 c, .int .i64 b, .int .i64 p, .int .i64 s] 29)
  have hQ : (w.alloc (.cells #[.int .i64 c, .int .i64 b, .int .i64 p, .int .i64 s] 29)).heap[w.heap.size]? = some (.cells #[.int .i64 c, .int .i64 b, .int .i64 p, .int .i64 s] 29 (0, 0)) := heap_is rfl
  obtain ⟨q, hq⟩ : ∃ q, q = w.heap.size := ⟨_, rfl⟩
  generalize hw0 : w.alloc (.cells #[.int .i64 c, .int .i64 b, .int .i64 p, .int .i64 s] 29) = w0 at hal hQ
  have HW := Lib.hid hw0
  clear hw0
  go_enter Try.func6, Try.ntmps6
  go_wp2_with fail
  rw [HW.out, ← hq]
  rw [← hq] at hQ
  have HQ := Lib.hid hq
  clear hq HW
  refine (nil_read 0 0 0 w0).mono ?_
  rintro e w1 ⟨rfl, hb1⟩
  replace hQ := heap_keep hb1 hQ
  replace hal := hal.trans (hb1.mono hal.size)
  clear hb1
  go_wp2_with fail
  refine (nil_boot w1).mono ?_
  rintro e w1 ⟨rfl, rfl⟩
  go_wp2_with fail
  refine (nil_kill n _).mono ?_
  rintro e w2 ⟨rfl, rfl⟩
  go_wp2_with fail
  refine (begun_calls _).mono ?_
  rintro e w2 ⟨rfl, hb1⟩
  replace hQ := heap_keep hb1 hQ
  replace hal := hal.trans (hb1.mono hal.size)
  clear hb1
  go_wp2_with fail
  refine (nil_prog 0 0 0 _ _ w2).mono ?_
  rintro e w3 ⟨rfl, hb1⟩
  replace hQ := heap_keep hb1 hQ
  replace hal := hal.trans (hb1.mono hal.size)
  clear hb1
  go_wp2_with fail
  refine (nil_erase 0 0 w3).mono ?_
  rintro e w4 ⟨rfl, hb1⟩
  replace hQ := heap_keep hb1 hQ
  replace hal := hal.trans (hb1.mono hal.size)
  clear hb1
  go_wp2_with fail
  refine (nil_chips w4).mono ?_
  rintro e w5 ⟨rfl, rfl⟩
  go_wp2_with fail
  refine (nil_ops w4).mono ?_
  rintro e w5 ⟨rfl, rfl⟩
  go_wp2_with fail
  refine (nil_off w4).mono ?_
  rintro e w5 ⟨rfl, rfl⟩
  go_wp2_with fail
  refine (nil_dead n w4).mono ?_
  rintro e w5 ⟨rfl, rfl⟩
  go_wp2_with fail
  refine (nil_erases n w4).mono ?_
  rintro e w5 ⟨rfl, rfl⟩
  go_wp2_with fail
  refine (nil_copy w4).mono ?_
  rintro e w5 ⟨rfl, rfl⟩
  go_wp2_with fail
  refine (nil_dump w4).mono ?_
  rintro e w5 ⟨rfl, rfl⟩
  go_wp2_with fail
  refine (nil_geo w4).mono ?_
  rintro e w5 ⟨rfl, hb1⟩
  replace hQ := heap_keep hb1 hQ
  replace hal := hal.trans (hb1.mono hal.size)
  clear hb1
  go_upto_region 7 with (fail)
  obtain ⟨D, hDD⟩ : ∃ D, D = decide (geoOk c b p s) := ⟨_, rfl⟩
  have HDD := Lib.hid hDD
  have hD1 : D = true → geoOk c b p s := fun h => of_decide_eq_true (hDD.symm.trans h)
  have hD0 : D = false → ¬ geoOk c b p s := fun h => of_decide_eq_false (hDD.symm.trans h)
  have HD := Lib.hid (⟨hD1, hD0⟩ : _ ∧ _)
  clear hDD hD1 hD0
  have HAL := Lib.hid hal
  clear hal
  go_cut [9] (fun s9 wx => s9 = .bool D ∧ wx = w5)
  case first =>
    have q0 := cells_at hQ 0 _ rfl
    have q1 := cells_at hQ 1 _ rfl
    have q2 := cells_at hQ 2 _ rfl
    have q3 := cells_at hQ 3 _ rfl
    simp only [List.getElem_toArray, List.getElem_cons_succ, List.getElem_cons_zero] at q0 q1 q2 q3
    have hlq := heap_lt hQ
    clear hQ
    cases D with
    | true =>
      obtain ⟨h1, h2, h3, h4, h5, h6, h7, h8, h9⟩ := HD.out.1 rfl
      have d1 : decide (3 ≤ c) = true := by simp; omega
      have d2 : decide (c ≤ 16) = true := by simp; omega
      have d3 : decide (16 ≤ b) = true := by simp; omega
      have d4 : decide (b ≤ 64) = true := by simp; omega
      have d5 : decide (4 ≤ p) = true := by simp; omega
      have d6 : decide (p ≤ 32) = true := by simp; omega
      have d7 : decide (256 ≤ s) = true := by simp; omega
      have d8 : decide (s ≤ 1024) = true := by simp; omega
      have d9 : s.tmod 64 = 0 := by rw [Int.tmod_eq_emod_of_nonneg (by omega)]; exact h9
      go_wp2_with fail
      go_meet
      case rel => exact ⟨rfl, rfl⟩
    | false =>
      have h := HD.out.2 rfl
      have hbad : ¬ 3 ≤ c ∨ (3 ≤ c ∧ ¬ c ≤ 16) ∨ (3 ≤ c ∧ c ≤ 16 ∧ ¬ 16 ≤ b) ∨ (3 ≤ c ∧ c ≤ 16 ∧ 16 ≤ b ∧ ¬ b ≤ 64) ∨ (3 ≤ c ∧ c ≤ 16 ∧ 16 ≤ b ∧ b ≤ 64 ∧ ¬ 4 ≤ p) ∨ (3 ≤ c ∧ c ≤ 16 ∧ 16 ≤ b ∧ b ≤ 64 ∧ 4 ≤ p ∧ ¬ p ≤ 32) ∨ (3 ≤ c ∧ c ≤ 16 ∧ 16 ≤ b ∧ b ≤ 64 ∧ 4 ≤ p ∧ p ≤ 32 ∧ ¬ 256 ≤ s) ∨ (3 ≤ c ∧ c ≤ 16 ∧ 16 ≤ b ∧ b ≤ 64 ∧ 4 ≤ p ∧ p ≤ 32 ∧ 256 ≤ s ∧ ¬ s ≤ 1024) ∨ (3 ≤ c ∧ c ≤ 16 ∧ 16 ≤ b ∧ b ≤ 64 ∧ 4 ≤ p ∧ p ≤ 32 ∧ 256 ≤ s ∧ s ≤ 1024 ∧ ¬ s % 64 = 0) := by
        unfold geoOk at h
        omega
      clear h
      rcases hbad with h1 | ⟨h1, h2⟩ | ⟨h1, h2, h3⟩ | ⟨h1, h2, h3, h4⟩ | ⟨h1, h2, h3, h4, h5⟩ | ⟨h1, h2, h3, h4, h5, h6⟩ | ⟨h1, h2, h3, h4, h5, h6, h7⟩ | ⟨h1, h2, h3, h4, h5, h6, h7, h8⟩ | ⟨h1, h2, h3, h4, h5, h6, h7, h8, h9⟩
      all_goals
        try have e9 : (s % 64 == 0) = false := by rw [beq_eq_false_iff_ne]; exact h9
        try first | have e1 := decide_eq_false h1 | have e1 := decide_eq_true h1
        try first | have e2 := decide_eq_false h2 | have e2 := decide_eq_true h2
        try first | have e3 := decide_eq_false h3 | have e3 := decide_eq_true h3
        try first | have e4 := decide_eq_false h4 | have e4 := decide_eq_true h4
        try first | have e5 := decide_eq_false h5 | have e5 := decide_eq_true h5
        try first | have e6 := decide_eq_false h6 | have e6 := decide_eq_true h6
        try first | have e7 := decide_eq_false h7 | have e7 := decide_eq_true h7
        try first | have e8 := decide_eq_false h8 | have e8 := decide_eq_true h8
        go_wp2_with fail
        go_meet
        case rel => exact ⟨rfl, rfl⟩
  case rest =>
    obtain ⟨rfl, rfl⟩ := hcut
    have hal := HAL.out
    have hnew := new_calls c b p s (.slice none 0 0) [] none 0 [] wc (RPair.nil wc) (by simp) ⟨Nat.le_refl _, by simp [maxLen], fun _ => rfl, .inl rfl⟩ (by simp) (fun x hx => by cases hx)
    have hnew2 : Calls Try.prog 10 #[geoV c b p s, .slice none 0 0, .slice none 0 0] wc fun e w' => ∃ (a : Option Addr) (en : Nat), e = .returned (.tuple #[.pointer a, .int .i64 en]) ∧ Below wc.heap.size wc w' ∧ ((D = true ∧ en = 0) ∨ (D = false ∧ en = 34 ∧ a = none)) := by
      refine hnew.mono fun e w' h => ?_
      cases D with
      | true =>
        obtain ⟨L, rfl, -, -, hb⟩ := h.1 ⟨HD.out.1 rfl, by simp, fun x hx => by cases hx⟩
        exact ⟨_, 0, rfl, hb, .inl ⟨rfl, rfl⟩⟩
      | false =>
        obtain ⟨rfl, hb⟩ := h.2 (fun hh => HD.out.2 rfl hh.1)
        exact ⟨none, 34, rfl, hb, .inr ⟨rfl, rfl, rfl⟩⟩
    have HN := Lib.hid hnew2
    clear hnew hnew2
    have q0 := cells_at hQ 0 _ rfl
    have q1 := cells_at hQ 1 _ rfl
    have q2 := cells_at hQ 2 _ rfl
    have q3 := cells_at hQ 3 _ rfl
    simp only [List.getElem_toArray, List.getElem_cons_succ, List.getElem_cons_zero] at q0 q1 q2 q3
    have hlq := heap_lt hQ
    have HQQ := Lib.hid hQ
    clear hQ
    go_wp2_with fail
    refine HN.out.mono ?_
    rintro e w6 ⟨a, en, rfl, hb6, hen⟩
    have hQ6 := heap_keep hb6 HQQ.out
    have hal6 := hal.trans (hb6.mono hal.size)
    have HEN := Lib.hid hen
    have H6 := Lib.hid (⟨hQ6, hal6⟩ : _ ∧ _)
    clear q0 q1 q2 q3 hlq HQQ hen hQ6 hal hb6 HN hal6
    go_wp2_with fail
    obtain ⟨k0, -, hk0, -, hshape⟩ := shape_calls 0 w6
    obtain rfl : k0 = 3 := hk0 rfl
    clear hk0 hshape
    have hmk : ∀ w, (Instr.makeSlice 50 (.int .i64 201) (.int .i64 201)).run Try.prog w = .ok (.slice (some ⟨w.heap.size, 0, none⟩) 201 201) (w.alloc (.cells (madeCells #[.int .i64 0, .int .i64 0, .int .i64 0, .slice none 0 0] 804) 92)) := fun w => make_any Try.underlying50 infoEvent 201 (by omega) (by omega) w
    have hA : BornA [] w6.heap.size (fun w' => Below w6.heap.size w6 w') (fun b => b < w6.heap.size) w6.drew := ⟨(fun x hx => by cases hx), rfl, Nat.le_refl _, (Below.refl _ _).drew⟩
    have hgood : Good (Held []) (BornA [] w6.heap.size (fun w' => Below w6.heap.size w6 w')) := BornA.good fun w' o h1 h2 => h2.alloc h2.size o
    (refine wp_region_born [.ann 1, .hard 0, .take 1, .hard 2, .soft 3, .soft 4, .soft 5, .soft 6, .soft 7] [(false, false), (false, false), (false, false), (true, true), (true, true), (true, true), (true, true), (true, true)] [0, 0, 3, 7, 15, 15, 31, 127] (Held []) (BornA [] w6.heap.size (fun w' => Below w6.heap.size w6 w')) (fun b => b < w6.heap.size) (by kernel_rfl) (by kernel_rfl) ?_ ?_ ?_)
    · exact hgood
    · exact hA
    clear hA hgood
    (apply bx_ann rfl; (focus (intro w n hL hn; go_simp; (first | exact ⟨rfl, rfl⟩ | exact rfl))))
    refine bx_one rfl (by first | rfl | (go_simp; done)) (fun G wc hA R hR hX => ?_)
    obtain ⟨hH, rfl, hsz, hbw⟩ := hA
    go_wp2_with fail
    obtain ⟨k0, -, hk0, -, hshape⟩ := shape_calls 0 wc
    obtain rfl : k0 = 3 := hk0 rfl
    refine hshape.mono ?_
    rintro e w2 ⟨rfl, hb2⟩
    clear hk0 hshape
    go_wp2_with fail
    refine hR _ _ rfl ⟨BornA [] w6.heap.size (fun w' => Below w6.heap.size w6 w'), fun b => b < w6.heap.size, BornA.good fun w' o h1 h2 => h2.alloc h2.size o, ⟨hH.below hb2, rfl, by have := hb2.size; omega, hbw.trans (hb2.mono hbw.size)⟩, Only.new hb2 _, fun _ h => .inl h, ?_⟩
    clear hR hX R hH hsz hbw hb2
    (refine bx_take rfl rfl (fun mb KK hKK => ?_); go_simp; refine hKK _ ?_; clear hKK KK)
    refine bx_one rfl (by first | rfl | (go_simp; done)) (fun G wc hA R hR hX => ?_)
    obtain ⟨⟨hH, rfl, hsz, hbw⟩, hmb, hnmb⟩ := hA
    have hev := evN 201 (by omega) hmb
    have hnw := new_calls 3 16 4 256 (.slice none 0 0) [] (some ⟨mb, 0, none⟩) 201 (List.replicate 201 Ev.zero) wc (RPair.nil wc) (by simp) hev (by simp) ev201Ok
    rw [List.length_replicate] at hnw
    have HNW := Lib.hid hnw
    clear hnw hev
    go_wp2_with fail
    refine HNW.out.mono ?_
    rintro e w2 h
    obtain ⟨rfl, hb2⟩ := h.2 (by rw [List.length_replicate]; omega)
    clear h HNW
    go_wp2_with fail
    refine hR _ _ rfl ⟨BornA [] w6.heap.size (fun w' => Below w6.heap.size w6 w'), fun b => b < w6.heap.size, BornA.good fun w' o h1 h2 => h2.alloc h2.size o, ⟨hH.below hb2, rfl, by have := hb2.size; omega, hbw.trans (hb2.mono hbw.size)⟩, Only.new hb2 _, fun _ h => .inl h, ?_⟩
    clear hR hX R hH hsz hbw hb2 hmb hnmb
    (repeat (first | (refine bx_pure rfl (fun KK hKK => ?_); go_simp; refine hKK _ ?_; clear hKK KK) | (refine bx_load rfl rfl ?_ (fun KK hKK => ?_); (focus (first | rfl | (go_simp; done))); apply Exists.intro; apply And.intro; (focus (intro w' hC; go_simp; exact rfl)); go_simp; refine hKK _ ?_; clear hKK KK) | (refine bx_skip rfl ?_ (fun KK hKK => ?_); (focus (first | rfl | (go_simp; done))); go_simp; refine hKK _ ?_; clear hKK KK)))
    refine bx_done (fun G wz hz => ?_)
    obtain ⟨-, -, -, hbz⟩ := hz
    obtain ⟨hQ6, hal6⟩ := H6.out
    have hQz := heap_keep hbz hQ6
    have halz := hal6.trans (hbz.mono hal6.size)
    have q0 := cells_at hQz 0 _ rfl
    have q1 := cells_at hQz 1 _ rfl
    have q2 := cells_at hQz 2 _ rfl
    have q3 := cells_at hQz 3 _ rfl
    simp only [List.getElem_toArray, List.getElem_cons_succ, List.getElem_cons_zero] at q0 q1 q2 q3
    have hlq := heap_lt hQz
    have hch := gcheck_calls c b p s wz
    unfold CheckEnds at hch
    have HZ := Lib.hid (⟨halz, hch⟩ : _ ∧ _)
    clear hQz halz hbz hQ6 hal6 hch H6 hmk
    rcases HEN.out with ⟨rfl, rfl⟩ | ⟨rfl, rfl, rfl⟩
    · have hg := HD.out.1 rfl
      obtain ⟨halz, hch⟩ := HZ.out
      rw [if_pos hg] at hch
      have HC := Lib.hid hch
      have HA := Lib.hid halz
      clear hch halz hg
      go_wp2_with fail
      refine HC.out.mono ?_
      rintro e w8 ⟨rfl, hb8⟩
      have HX := Lib.hid (HF.out _ (HA.out.trans (hb8.mono HA.out.size)))
      go_wp2_with fail
      exact HX.out
    · have hg := HD.out.2 rfl
      obtain ⟨halz, hch⟩ := HZ.out
      rw [if_neg hg] at hch
      have HC := Lib.hid hch
      have HA := Lib.hid halz
      clear hch halz hg
      go_wp2_with fail
      refine HC.out.mono ?_
      rintro e w8 ⟨rfl, hb8⟩
      have HX := Lib.hid (HF.out _ (HA.out.trans (hb8.mono HA.out.size)))
      go_wp2_with fail
      exact HX.out

set_option maxRecDepth 100000 in
theorem walk {H : Type} (enc : TypeId × Value → H) (W : World) (base : Nat) (v0 : Value) (d0 : DataW H) (p0 : List MemPlace)
    (hv0 : Value.okWide Try.prog W .any base 29 v0) (h0 : DataW.Trod enc Try.prog W 0 (fun _ => true) true 29 v0 d0 p0)
    (v1 : Value) (d1 : DataW H) (p1 : List MemPlace)
    (hv1 : Value.okWide Try.prog W .any base 3 v1) (h1 : DataW.Trod enc Try.prog W 0 (fun _ => true) true 3 v1 d1 p1)
    (_hsz : (DataW.weightsEach Try.prog [29, 3] [d0, d1]).all (· ≤ reachBytes) = true) :
    Calls Try.prog 6 #[v0, v1] W fun e W' => e = .returned (.bool true) ∧ Below W.heap.size W W' := by
  obtain ⟨n, rfl⟩ := okWide_int Try.underlying3 hv1
  obtain ⟨f1, t1⟩ := h1
  obtain ⟨z1, e1, _, w1⟩ := DataW.trod_int Try.underlying3 t1
  obtain ⟨cs, rfl, hs⟩ := okWide_struct Try.underlying29 hv0
  obtain ⟨fuel, hf⟩ := h0
  obtain ⟨ys, m, rfl, hy, hlen, hyl, hff⟩ := DataW.trod_struct Try.underlying29 hf
  have hsz : cs.size = 4 := hs.trans (by kernel_rfl)
  obtain ⟨cl⟩ := cs
  match cl, hsz with
  | [x0, x1, x2, x3], _ =>
    obtain ⟨y0, y1, y2, y3, rfl⟩ : ∃ y0 y1 y2 y3, ys = [y0, y1, y2, y3] := by
      match ys, hyl with
      | [y0, y1, y2, y3], _ => exact ⟨y0, y1, y2, y3, rfl⟩
    have t0 : DataW.trod enc Try.prog W 0 (fun _ => true) true m 3 (List.take (Try.prog.cellsOf 3) [x0, x1, x2, x3]) = some y0 := hff 0 _ rfl
    have t1 : DataW.trod enc Try.prog W 0 (fun _ => true) true m 3 (List.take (Try.prog.cellsOf 3) [x1, x2, x3]) = some y1 := hff 1 _ rfl
    have t2 : DataW.trod enc Try.prog W 0 (fun _ => true) true m 3 (List.take (Try.prog.cellsOf 3) [x2, x3]) = some y2 := hff 2 _ rfl
    have t3 : DataW.trod enc Try.prog W 0 (fun _ => true) true m 3 (List.take (Try.prog.cellsOf 3) [x3]) = some y3 := hff 3 _ rfl
    rw [show Try.prog.cellsOf 3 = 1 by kernel_rfl] at t0 t1 t2 t3
    obtain ⟨z0, f0, _, w0⟩ := DataW.trod_int Try.underlying3 t0
    obtain ⟨z1, f1, _, w1'⟩ := DataW.trod_int Try.underlying3 t1
    obtain ⟨z2, f2, _, w2⟩ := DataW.trod_int Try.underlying3 t2
    obtain ⟨z3, f3, _, w3⟩ := DataW.trod_int Try.underlying3 t3
    simp only [List.take, List.cons.injEq, and_true] at f0 f1 f2 f3
    subst f0 f1 f2 f3
    simp only [Value.cells, List.cons.injEq, Value.int.injEq, true_and, and_true] at e1
    exact law z0 z1 z2 z3 n W (lit_i64 w0) (lit_i64 w1') (lit_i64 w2) (lit_i64 w3) (by subst e1; exact lit_i64 w1)
end Go.Proofs.Ytphnjiokihbhnaa.lawNandNils
