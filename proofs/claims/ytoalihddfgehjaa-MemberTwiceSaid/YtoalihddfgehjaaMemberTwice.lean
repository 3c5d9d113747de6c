/- MemberTwice: the walk. -/
--only r1
import Derived.Test.YtoalihddfgehjaaMemberFirsts
import Derived.Test.YtoalihddfgehjaaMix
namespace Go.Proofs.Ytoalihddfgehjaa.lawMemberTwice
open Go.RowKit Go.ChangeShapes Go.WideShapes
set_option linter.unusedVariables false
set_option linter.unusedSimpArgs false

/-- a set in which one chip stands twice, or none -/
theorem twice_good (n i j : Nat) (hi : i < n) (hj : j < n) : GoodL n ((uptoI n).set i (j : Int) ++ [(n : Int)]) ↔ i = j := by
  constructor
  · intro h
    apply Classical.byContradiction
    intro hne
    have hl : ((uptoI n).set i (j : Int) ++ [(n : Int)]).length = n + 1 := by simp [uptoI]
    have get : ∀ (k : Nat) (hk : k < n), ((uptoI n).set i (j : Int) ++ [(n : Int)])[k]'(by omega) = if i = k then (j : Int) else (k : Int) := fun k hk => by
      rw [List.getElem_append_left (by simp [uptoI]; exact hk), List.getElem_set]
      simp [uptoI]
    have take : ∀ (k m : Nat) (hk : k < m) (hm : m ≤ n), ((uptoI n).set i (j : Int) ++ [(n : Int)])[k]'(by omega) ∈ ((uptoI n).set i (j : Int) ++ [(n : Int)]).take m := fun k m hk hm => by
      have : (((uptoI n).set i (j : Int) ++ [(n : Int)]).take m)[k]'(by simp [uptoI]; omega) = ((uptoI n).set i (j : Int) ++ [(n : Int)])[k]'(by omega) := List.getElem_take
      rw [← this]; exact List.getElem_mem _
    rcases Nat.lt_trichotomy i j with hlt | he | hlt
    · have h1 := (h j (by omega)).2.2
      rw [get j hj, if_neg hne] at h1
      have h2 := take i j hlt (by omega)
      rw [get i hi, if_pos rfl] at h2
      exact h1 h2
    · exact hne he
    · have h1 := (h i (by omega)).2.2
      rw [get i hi, if_pos rfl] at h1
      have h2 := take j i hlt (by omega)
      rw [get j hj, if_neg hne] at h2
      exact h1 h2
  · rintro rfl
    have : (uptoI n).set i (i : Int) = uptoI n := by
      apply List.ext_getElem
      · simp
      · intro k h1 h2
        rw [List.getElem_set]
        split
        · rename_i h; subst h; simp [uptoI]
        · rfl
    rw [this]
    exact upto_good n

set_option maxHeartbeats 4000000 in
theorem law (ch a b done : Int) (w : World) :
    Calls Try.prog 17 #[.agg #[.int .i64 ch, .int .i64 a, .int .i64 b, .int .i64 done]] w fun e w' => e = .returned (.bool true) ∧ Below w.heap.size w w' := by
  obtain ⟨k, hk, hke⟩ := pick_eq ch 14 (by omega) (by omega)
  obtain ⟨n, hn⟩ : ∃ n, n = 3 + k := ⟨_, rfl⟩
  obtain ⟨i, hi, hie⟩ := pick_eq a n (by omega) (by omega)
  obtain ⟨j, hj, hje⟩ := pick_eq b n (by omega) (by omega)
  have hn1 : 3 ≤ n := by omega
  have hn2 : n ≤ 16 := by omega
  have hg : PMemberFirsts.api_Geo_Check.f (n : Int) 20 6 256 = some 0 := by
    unfold PMemberFirsts.api_Geo_Check.f
    rw [if_neg (by omega), if_neg (by omega)]; rfl
  have hshape := fun w => shape_calls ch k w hke hk
  rw [← hn] at hshape
  clear hke hk
  have HI := Lib.hid hie
  have HJ := Lib.hid hje
  clear hn hie hje
  go_enter Try.func17, Try.ntmps17
  go_wp2_with fail
  have hX : (w.alloc (.cells #[.int .i64 ch, .int .i64 a, .int .i64 b, .int .i64 done] 68)).heap[w.heap.size]? = _ := heap_is rfl
  have hbel0 : Below w.heap.size w (w.alloc (.cells #[.int .i64 ch, .int .i64 a, .int .i64 b, .int .i64 done] 68)) := (Below.refl _ _).alloc (Nat.le_refl _) _
  generalize w.alloc (.cells #[.int .i64 ch, .int .i64 a, .int .i64 b, .int .i64 done] 68) = w0 at hX hbel0 ⊢
  have p0 := cells_at hX 0 _ rfl
  have p1 := cells_at hX 1 _ rfl
  have p2 := cells_at hX 2 _ rfl
  have p3 := cells_at hX 3 _ rfl
  clear hX
  (refine wp_region_mix [0, 1, 2, 3, 4, 5, 6, 7, 8, 9, 10, 11] [(true, true), (true, false), (true, true), (true, false), (true, true), (true, false), (true, true), (true, false), (true, true), (true, true), (true, true), (true, true)] [0, 1, 0, 4, 0, 16, 0, 64, 3, 271, 831, 2047] _ (by kernel_rfl) (by kernel_rfl) (rfl : _ = _) ?_; simp only [pickL, List.map_cons, List.map_nil, List.getD_cons_succ, List.getD_cons_zero])
  repeat (first | (refine mix_pure (fun hne K hK => ?_); go_simp; refine hK _ ?_; clear hK K hne) | (refine mix_load ?_ (fun K hK => ?_); (focus (first | rfl | (go_simp; done))); go_simp; refine hK _ ?_; clear hK K) | (refine mix_skip ?_ (fun K hK => ?_); (focus (first | rfl | (go_simp; done))); go_simp; refine hK _ ?_; clear hK K))
  refine mix_done ?_
  go_wp2_with fail
  refine (hshape _).mono ?_
  rintro e w1 ⟨rfl, hb1⟩
  have hbel1 : Below w.heap.size w w1 := hbel0.trans (((⟨rfl, rfl, rfl, Nat.le_refl _, fun _ _ => rfl⟩ : Below w0.heap.size w0 w0.drew).trans (show Below w0.heap.size w0.drew w1 from hb1)).mono hbel0.size)
  clear hb1 p0 p1 p2 p3 hbel0 hshape
  go_wp2_with fail
  refine (First_calls n 20 6 256 _ (by omega)).mono ?_
  rintro e w2 ⟨v, rfl, hown, hb2⟩
  rcases hown.2 with ⟨_, h0⟩ | ⟨g, cv, _, rfl, _, _⟩
  · exfalso; omega
  have hba1 := (Below.refl w1.heap.size w1).alloc (Nat.le_refl _) (.cells #[.int .i64 (n : Int), .int .i64 20, .int .i64 6, .int .i64 256] 49)
  have hB2 : w2.heap[w1.heap.size]? = some (.cells #[.int .i64 (n : Int), .int .i64 20, .int .i64 6, .int .i64 256] 49 (0, 0)) := heap_keep hb2 (heap_is rfl)
  have hb12 : Below w1.heap.size w1 w2 := hba1.trans (hb2.mono (by simp))
  have hbel2 := hbel1.trans (hb12.mono hbel1.size)
  clear hb2 hba1
  go_wp2_with fail
  refine (first_calls _).mono ?_
  rintro e w3 ⟨rfl, hb3⟩
  have hS3 : w3.heap[w2.heap.size]? = some (.cells #[.int .u32 1, .slice (some ⟨g, 0, none⟩) n cv, .int .i64 (n : Int), .int .i64 255, .int .i64 0] 40 (0, 0)) := heap_keep hb3 (heap_is rfl)
  have hba := (Below.refl w2.heap.size w2).alloc (Nat.le_refl _) (.cells #[.int .u32 1, .slice (some ⟨g, 0, none⟩) n cv, .int .i64 (n : Int), .int .i64 255, .int .i64 0] 40)
  have hb23 : Below w2.heap.size w2 w3 := hba.trans (hb3.mono (by simp))
  have hB3 := heap_keep hb23 hB2
  have hown3 := own_keep hown hb23
  have hg1 : w1.heap.size < g := by have := (hown3.lt g rfl).1; simp at this; omega
  have hg2 : g < w2.heap.size := (hown.lt g rfl).2
  have hbel3 := hbel2.trans (hb23.mono hbel2.size)
  have hsz3 : w2.heap.size < w3.heap.size := heap_lt hS3
  clear hb3 hba hb23 hown hB2 hb12
  have k0 := cells_at hB3 0 _ rfl
  have s1 := cells_at hS3 1 _ rfl
  have hie := (IntWalk.i64_left _).trans HI.out
  have hje := (IntWalk.i64_left _).trans HJ.out
  have hnz : ¬ n = 0 := by omega
  have hnz2 : ¬ (n : Int) = 0 := by omega
  have hun : IntKind.u64.wrap (n : Int) = (n : Int) := by rw [IntKind.wrap_u64]; omega
  go_wp2_with fail
  (refine wp_region_mix [0, 1, 2, 3, 4, 5, 6, 7, 8, 9, 10, 11, 12, 13, 14, 15] [(true, true), (true, true), (true, true), (true, false), (true, true), (true, true), (true, true), (true, true), (true, true), (true, true), (true, false), (true, true), (true, true), (true, true), (true, true), (true, true)] [0, 1, 0, 4, 12, 31, 63, 0, 128, 0, 512, 1536, 3968, 8064, 127, 32767] _ (by kernel_rfl) (by kernel_rfl) (rfl : _ = _) ?_; simp only [pickL, List.map_cons, List.map_nil, List.getD_cons_succ, List.getD_cons_zero])
  repeat (first | (refine mix_pure (fun hne K hK => ?_); go_simp; refine hK _ ?_; clear hK K hne) | (refine mix_load ?_ (fun K hK => ?_); (focus (first | rfl | (go_simp; done))); go_simp; refine hK _ ?_; clear hK K) | (refine mix_skip ?_ (fun K hK => ?_); (focus (first | rfl | (go_simp; done))); go_simp; refine hK _ ?_; clear hK K))
  try rw [hie]
  try rw [hje]
  clear hie hje
  refine mix_done ?_
  have hcj : w3.cell? ⟨g, j, none⟩ = some (.int .i64 (j : Int)) := by
    rw [hown3.cellAt (j := j) (by omega)]; simp [uptoI, hj]
  have hfr := hown3.frozenAt i
  have hci : w3.cell? ⟨g, i, none⟩ = some (.int .i64 (i : Int)) := by
    rw [hown3.cellAt (j := i) (by omega)]; simp [uptoI, hi]
  go_wp2_with fail
  (refine wp_region_mix [0, 1, 2, 3, 4, 5, 6, 7, 8, 9] [(true, true), (true, false), (true, true), (true, true), (true, false), (true, true), (true, true), (true, false), (true, true), (false, false)] [0, 1, 0, 0, 8, 0, 56, 120, 255, 511] _ (by kernel_rfl) (by kernel_rfl) (rfl : _ = _) ?_; simp only [pickL, List.map_cons, List.map_nil, List.getD_cons_succ, List.getD_cons_zero])
  repeat (first | (refine mix_pure (fun hne K hK => ?_); go_simp; refine hK _ ?_; clear hK K hne) | (refine mix_load ?_ (fun K hK => ?_); (focus (first | rfl | (go_simp; done))); go_simp; refine hK _ ?_; clear hK K) | (refine mix_skip ?_ (fun K hK => ?_); (focus (first | rfl | (go_simp; done))); go_simp; refine hK _ ?_; clear hK K))
  (refine mix_one (by first | rfl | (go_simp; done)) (fun R hR hX => ?_))
  go_wp2_with fail
  ((try simp only [wpList]); refine hR _ _ rfl ⟨fun w' => w' = _, rfl, (fun h => by cases h), ?_⟩; clear hR hX R)
  refine mix_done ?_
  obtain ⟨w4, hw4⟩ : ∃ w4, w4 = (w3.setCell ⟨g, i, none⟩ (.int .i64 (j : Int))).drew.drew := ⟨_, rfl⟩
  have hst := hown3.stored i (i64v (j : Int))
  have hown4 := hst.1.drew.drew
  rw [← List.map_set, ← hw4] at hown4
  have hbel4 : Below w.heap.size w w4 := by
    rw [hw4]
    exact (hbel3.grown hst.2 hbel3.size (fun z hz => by cases hz; have := hbel1.size; omega)).trans ⟨rfl, rfl, rfl, Nat.le_refl _, fun _ _ => rfl⟩
  have hB4 : w4.heap[w1.heap.size]? = some (.cells #[.int .i64 (n : Int), .int .i64 20, .int .i64 6, .int .i64 256] 49 (0, 0)) := by
    rw [hw4]
    show (w3.setCell _ _).heap[w1.heap.size]? = _
    rw [Below.heap_setCell _ _ _ _ (by show w1.heap.size ≠ g; omega)]; exact hB3
  have hS4 : w4.heap[w2.heap.size]? = some (.cells #[.int .u32 1, .slice (some ⟨g, 0, none⟩) n cv, .int .i64 (n : Int), .int .i64 255, .int .i64 0] 40 (0, 0)) := by
    rw [hw4]
    show (w3.setCell _ _).heap[w2.heap.size]? = _
    rw [Below.heap_setCell _ _ _ _ (by show w2.heap.size ≠ g; omega)]; exact hS3
  rw [← hw4]
  clear hw4 hst hown3 hbel3 hB3 hS3 hcj hci hfr k0 s1
  have k0 := cells_at hB4 0 _ rfl
  have k1 := cells_at hB4 1 _ rfl
  have k2 := cells_at hB4 2 _ rfl
  have k3 := cells_at hB4 3 _ rfl
  have s0 := cells_at hS4 0 _ rfl
  have s1 := cells_at hS4 1 _ rfl
  have s2 := cells_at hS4 2 _ rfl
  have s3 := cells_at hS4 3 _ rfl
  have s4 := cells_at hS4 4 _ rfl
  go_wp2_with fail
  refine (Check_calls n 20 6 256 1 _ ((uptoI n).set i (j : Int)) n 0 _ hg (RV.own hown4) (by simp [uptoI]) (by omega)).mono ?_
  rintro e w5 ⟨⟨z, rfl, hz⟩, hb5⟩
  have hz' : z = 0 ↔ i = j := hz.trans ⟨fun h => (twice_good n i j hi hj).1 h.2, fun h => ⟨rfl, (twice_good n i j hi hj).2 h⟩⟩
  have hB5 := heap_keep hb5 hB4
  have hbel5 := hbel4.trans (hb5.mono hbel4.size)
  clear hz hb5 hB4 hS4 hown4 hbel4 k0 k1 k2 k3 s0 s1 s2 s3 s4
  have k0 := cells_at hB5 0 _ rfl
  have k1 := cells_at hB5 1 _ rfl
  have k2 := cells_at hB5 2 _ rfl
  have k3 := cells_at hB5 3 _ rfl
  have hzb : (z == 0) = decide (i = j) := by
    by_cases h : i = j
    · rw [decide_eq_true h, hz'.2 h]; rfl
    · rw [decide_eq_false h, beq_eq_false_iff_ne]; exact fun h2 => h (hz'.1 h2)
  have hib : ((i : Int) == (j : Int)) = decide (i = j) := by
    by_cases h : i = j
    · subst h; simp
    · rw [decide_eq_false h, beq_eq_false_iff_ne]; omega
  generalize decide (i = j) = bb at hzb hib
  clear hz'
  go_wp2_with fail
  refine (First_calls n 20 6 256 _ (by omega)).mono ?_
  rintro e w6 ⟨v6, rfl, hown6, hb6⟩
  rcases hown6.2 with ⟨_, h0⟩ | ⟨g6, cv6, _, rfl, _, _⟩
  · exfalso; omega
  have hB6 := heap_keep hb6 hB5
  have hbel6 := hbel5.trans (hb6.mono hbel5.size)
  clear hb6 hB5 hbel5 k0 k1 k2 k3
  have k0 := cells_at hB6 0 _ rfl
  have k1 := cells_at hB6 1 _ rfl
  have k2 := cells_at hB6 2 _ rfl
  have k3 := cells_at hB6 3 _ rfl
  have hlt6 := heap_lt hB6
  have q0 := fun o : Obj => (heap_old (w := w6) (b := w1.heap.size) o hB6)
  go_wp2_with fail
  refine (Check_calls n 20 6 256 1 _ (uptoI n) n done _ hg ((RV.own hown6).below (by go_grown)) (uptoI_length n) (by omega)).mono ?_
  rintro e w7 ⟨⟨z2, rfl, hz2⟩, hb7⟩
  have hzd : (z2 == 0) = (done == 0) := by
    have h2 : z2 = 0 ↔ done = 0 := hz2.trans ⟨fun h => h.1, fun h => ⟨h, upto_good n⟩⟩
    by_cases h : done = 0
    · rw [h2.2 h, h]
    · rw [beq_eq_false_iff_ne.2 h, beq_eq_false_iff_ne]; exact fun h3 => h (h2.1 h3)
  have hbel7 := hbel6.trans ((((Below.refl w6.heap.size w6).alloc (Nat.le_refl _) _).trans (hb7.mono (by simp))).mono hbel6.size)
  clear hz2 hb7 hbel6
  go_wp2_with fail
  go_ret
  exact ⟨by first | rfl | (simp [*]; done), hbel7⟩

theorem opens_case {H : Type} {enc : TypeId × Value → H} {W : World} {base : Nat} {v : Value} {d : DataW H} {p : List MemPlace}
    (hv : Value.okWide Try.prog W .any base 68 v) (h : DataW.Trod enc Try.prog W 0 (fun _ => true) true 68 v d p) :
    ∃ a b c e : Int, v = .agg #[.int .i64 a, .int .i64 b, .int .i64 c, .int .i64 e] := by
  obtain ⟨c0, c1, c2, c3, y0, y1, y2, y3, m, rfl, rfl, rfl, hy0, hy1, hy2, hy3⟩ := Go.Joins.open_agg4 Try.underlying68 (by kernel_rfl) (by kernel_rfl) hv h
  obtain ⟨a0, e0, _, w0⟩ := DataW.trod_int Try.underlying3 hy0
  obtain ⟨a1, e1, _, w1⟩ := DataW.trod_int Try.underlying3 hy1
  obtain ⟨a2, e2, _, w2⟩ := DataW.trod_int Try.underlying3 hy2
  obtain ⟨a3, e3, _, w3⟩ := DataW.trod_int Try.underlying3 hy3
  simp only [List.cons.injEq, and_true] at e0 e1 e2 e3
  subst e0 e1 e2 e3
  exact ⟨a0, a1, a2, a3, rfl⟩

theorem walk {H : Type} (enc : TypeId × Value → H) (W : World) (base : Nat) (v0 : Value) (d0 : DataW H) (p0 : List MemPlace)
    (hv0 : Value.okWide Try.prog W .any base 68 v0) (h0 : DataW.Trod enc Try.prog W 0 (fun _ => true) true 68 v0 d0 p0)
    (_hsz : (DataW.weightsEach Try.prog [68] [d0]).all (· ≤ reachBytes) = true) :
    Calls Try.prog 17 #[v0] W fun e W' => e = .returned (.bool true) ∧ Below W.heap.size W W' := by
  obtain ⟨a, b, c, d, rfl⟩ := opens_case hv0 h0
  exact law a b c d W
end Go.Proofs.Ytoalihddfgehjaa.lawMemberTwice
