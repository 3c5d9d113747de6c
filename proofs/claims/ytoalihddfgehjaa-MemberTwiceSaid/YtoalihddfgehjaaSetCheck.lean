/- member.Set.Check, where nobody is dead and a chip is in reserve. -/
--only r1
import Derived.Test.YtoalihddfgehjaaMember
namespace Go.Proofs.Ytoalihddfgehjaa
set_option linter.unusedVariables false
set_option linter.unusedSimpArgs false
open Go.RowKit

theorem geo_ok {a b c d : Int} (h : PMemberFirsts.api_Geo_Check.f a b c d = some 0) : 3 ≤ a ∧ a ≤ 16 ∧ 16 ≤ b ∧ b ≤ 64 := by
  unfold PMemberFirsts.api_Geo_Check.f at h
  repeat' split at h
  all_goals first | (simp at h; done) | omega

theorem Virtual_calls (a b c d : Int) (w : World) (h : 16 ≤ b ∧ b ≤ 64) : Calls Try.prog 50 #[geoV a b c d] w fun e w' => e = .returned (.int .i64 (b - 5)) ∧ Below w.heap.size w w' := by
  refine (PMemberFirsts.api_Geo_Virtual.calls a b c d (b - 5) w ?_)
  unfold PMemberFirsts.api_Geo_Virtual.f
  have : wrap64 (wrap64 (b - 2) - 3) = b - 5 := by unfold wrap64; omega
  rw [this]

set_option maxHeartbeats 8000000 in
theorem Check_calls (n : Nat) (b c d : Int) (seq : Int) (v : Value) (xs : List Int) (sp done : Int) (w : World) (hg : PMemberFirsts.api_Geo_Check.f (n : Int) b c d = some 0)
    (hv : RV w v (xs.map i64v)) (hlen : xs.length = n) (hsp : sp ≠ 255) :
    Calls Try.prog 45 #[setV seq v sp 255 done, geoV n b c d] w fun e w' => (∃ z : Int, e = .returned (.int .i64 z) ∧ (z = 0 ↔ (done = 0 ∧ GoodL n (xs ++ [sp])))) ∧ Below w.heap.size w w' := by
  obtain ⟨ti, hti, hz0, hz1, hz2⟩ := info_parts infoMInt
  obtain ⟨hn1, hn2, hb1, hb2⟩ := geo_ok hg
  obtain ⟨a, cap, rfl, hcap, hmax⟩ := hv.form
  rw [List.length_map, hlen]
  rw [List.length_map, hlen] at hv hcap
  have hmk := make_int n (by omega)
  go_enter Try.func45, Try.ntmps45
  go_wp2_with fail
  refine (PMemberFirsts.api_Geo_Check.calls n b c d 0 _ hg).mono ?_
  rintro e w1 ⟨rfl, hbw⟩
  generalize hcs : #[Value.int IntKind.u32 seq, Value.slice a n cap, Value.int IntKind.i64 sp, Value.int IntKind.i64 255, Value.int IntKind.i64 done] = cs at hbw
  generalize hcg : #[Value.int IntKind.i64 (n : Int), Value.int IntKind.i64 b, Value.int IntKind.i64 c, Value.int IntKind.i64 d] = cg at hbw
  have hsz : w.heap.size + 2 ≤ w1.heap.size := by have := hbw.size; simpa using this
  have hbs : w1.heap[w.heap.size]? = some (.cells cs 40 (0, 0)) := by
    rw [hbw.block w.heap.size (by simp; omega)]; exact heap_old _ (heap_is rfl)
  have hbg : w1.heap[w.heap.size + 1]? = some (.cells cg 49 (0, 0)) := by
    rw [hbw.block (w.heap.size + 1) (by simp)]; exact heap_is (by simp)
  have hbel1 : Below w.heap.size w w1 := (((Below.refl w.heap.size w).alloc (Nat.le_refl _) _).alloc (by simp) _).trans (hbw.mono (by simp; omega))
  have hv1 : RV w1 (.slice a n cap) (xs.map i64v) := hv.below hbel1
  clear hbw hv
  have HS := fun (j : Nat) (u : Value) (hj : cs[j]? = some u) (w' : World) (h : Below w1.heap.size w1 w') => below_cell (b := w.heap.size) (o := j) (x := u) h (by omega) (by simp only [World.cell?, hbs]; simpa using hj)
  have HG := fun (j : Nat) (u : Value) (hj : cg[j]? = some u) (w' : World) (h : Below w1.heap.size w1 w') => below_cell (b := w.heap.size + 1) (o := j) (x := u) h (by omega) (by simp only [World.cell?, hbg]; simpa using hj)
  have s1 := HS 1 (.slice a n cap) (by rw [← hcs]; rfl)
  have s2 := HS 2 (.int .i64 sp) (by rw [← hcs]; rfl)
  have s3 := HS 3 (.int .i64 255) (by rw [← hcs]; rfl)
  have s4 := HS 4 (.int .i64 done) (by rw [← hcs]; rfl)
  have g0 := HG 0 (.int .i64 n) (by rw [← hcg]; rfl)
  have g1 := HG 1 (.int .i64 b) (by rw [← hcg]; rfl)
  have g2 := HG 2 (.int .i64 c) (by rw [← hcg]; rfl)
  have g3 := HG 3 (.int .i64 d) (by rw [← hcg]; rfl)
  clear HS HG hbs hbg hcs hcg
  have hd : done < 0 ∨ b - 5 < done ∨ (0 < done ∧ done ≤ b - 5) ∨ done = 0 := by omega
  rcases hd with hd | hd | hd | hd
  · go_wp2_with fail
    (refine wp_region_mix [0, 1, 2, 3, 4, 5, 6, 7, 8, 9, 10, 11, 12, 13, 14, 15, 16, 17, 18, 19, 20, 21, 22, 23, 24, 25, 26, 27, 28, 29, 30, 31, 32, 33, 34, 35, 36, 37, 38, 39, 40, 41, 42, 43, 44, 45, 46, 47, 48, 49] [(true, true), (true, false), (true, true), (true, true), (true, false), (true, true), (true, true), (true, true), (true, false), (true, true), (true, true), (true, true), (true, false), (true, true), (true, true), (true, true), (true, false), (true, true), (true, false), (true, true), (true, true), (true, true), (true, true), (true, true), (true, true), (true, false), (true, true), (true, true), (true, true), (true, true), (true, false), (true, false), (false, true), (true, true), (true, true), (true, true), (true, true), (true, false), (true, true), (true, true), (true, true), (true, false), (true, true), (true, true), (true, true), (true, false), (true, true), (true, true), (true, true), (true, true)] [0, 1, 3, 0, 8, 31, 63, 127, 255, 511, 1023, 2047, 4095, 8191, 16383, 32767, 65535, 32767, 163839, 524287, 1048575, 2097151, 4194303, 8388607, 16777215, 33554431, 67108863, 134217727, 268435455, 536870911, 1073741823, 536870911, 2684354559, 8589934591, 17179869183, 34359738367, 68719476735, 137438953471, 274877906943, 549755813887, 1099511627775, 2199023255551, 4398046511103, 8796093022207, 17592186044415, 35184372088831, 70368744177663, 140737488355327, 281474976710655, 562949953421311] (fun w' => Below w1.heap.size w1 w') (by kernel_rfl) (by kernel_rfl) ?_ ?_; rotate_left; simp only [pickL, List.map_cons, List.map_nil, List.getD_cons_succ, List.getD_cons_zero])
    rotate_left
    exact ⟨rfl, rfl, rfl, Nat.le_refl _, fun _ _ => rfl⟩
    repeat (first | (refine mix_pure (fun hne K hK => ?_); go_simp; refine hK _ ?_; clear hK K hne) | (refine mix_load ?_ (fun K hK => ?_); (focus (first | rfl | (go_simp; done))); apply Exists.intro; apply And.intro; (focus (intro w' hC; go_simp; exact rfl)); go_simp; refine hK _ ?_; clear hK K) | (refine mix_skip ?_ (fun K hK => ?_); (focus (first | rfl | (go_simp; done))); go_simp; refine hK _ ?_; clear hK K))
    refine mix_done ?_
    go_wp2_with fail
    go_ret
    exact ⟨⟨62, rfl, fun h => by omega, fun h => by omega⟩, hbel1.trans ((⟨rfl, rfl, rfl, Nat.le_refl _, fun _ _ => rfl⟩ : Below w1.heap.size w1 w1.drew).mono hbel1.size)⟩
  · have hd0 : ¬ done < 0 := by omega
    go_wp2_with fail
    (refine wp_region_mix [0, 1, 2, 3, 4, 5, 6, 7, 8, 9, 10, 11, 12, 13, 14, 15, 16, 17, 18, 19, 20, 21, 22, 23, 24, 25, 26, 27, 28, 29, 30, 31, 32, 33, 34, 35, 36, 37, 38, 39, 40, 41, 42, 43, 44, 45, 46, 47, 48, 49] [(true, true), (true, false), (true, true), (true, true), (true, false), (true, true), (true, true), (true, true), (true, false), (true, true), (true, true), (true, true), (true, false), (true, true), (true, true), (true, true), (true, false), (true, true), (true, false), (true, true), (true, true), (true, true), (true, true), (true, true), (true, true), (true, false), (true, true), (true, true), (true, true), (true, true), (true, false), (true, false), (false, true), (true, true), (true, true), (true, true), (true, true), (true, false), (true, true), (true, true), (true, true), (true, false), (true, true), (true, true), (true, true), (true, false), (true, true), (true, true), (true, true), (true, true)] [0, 1, 3, 0, 8, 31, 63, 127, 255, 511, 1023, 2047, 4095, 8191, 16383, 32767, 65535, 32767, 163839, 524287, 1048575, 2097151, 4194303, 8388607, 16777215, 33554431, 67108863, 134217727, 268435455, 536870911, 1073741823, 536870911, 2684354559, 8589934591, 17179869183, 34359738367, 68719476735, 137438953471, 274877906943, 549755813887, 1099511627775, 2199023255551, 4398046511103, 8796093022207, 17592186044415, 35184372088831, 70368744177663, 140737488355327, 281474976710655, 562949953421311] (fun w' => Below w1.heap.size w1 w') (by kernel_rfl) (by kernel_rfl) ?_ ?_; rotate_left; simp only [pickL, List.map_cons, List.map_nil, List.getD_cons_succ, List.getD_cons_zero])
    rotate_left
    exact ⟨rfl, rfl, rfl, Nat.le_refl _, fun _ _ => rfl⟩
    repeat (first | (refine mix_pure (fun hne K hK => ?_); go_simp; refine hK _ ?_; clear hK K hne) | (refine mix_load ?_ (fun K hK => ?_); (focus (first | rfl | (go_simp; done))); apply Exists.intro; apply And.intro; (focus (intro w' hC; go_simp; exact rfl)); go_simp; refine hK _ ?_; clear hK K) | (refine mix_skip ?_ (fun K hK => ?_); (focus (first | rfl | (go_simp; done))); go_simp; refine hK _ ?_; clear hK K))
    (refine mix_one (by first | rfl | (go_simp; done)) (fun R hR hX => ?_))
    go_wp2_with fail
    refine (Virtual_calls n b c d _ ⟨hb1, hb2⟩).mono ?_
    rintro e w2 ⟨rfl, hbv⟩
    have hbel2 : Below w1.heap.size w1 w2 := (⟨rfl, rfl, rfl, Nat.le_refl _, fun _ _ => rfl⟩ : Below w1.heap.size w1 w1.drew).trans (show Below w1.heap.size w1.drew w2 from hbv)
    go_wp2_with fail
    refine hR _ _ rfl ⟨_, hbel2, fun _ => rfl, ?_⟩
    clear hR hX R
    repeat (first | (refine mix_pure (fun hne K hK => ?_); go_simp; refine hK _ ?_; clear hK K hne) | (refine mix_load ?_ (fun K hK => ?_); (focus (first | rfl | (go_simp; done))); apply Exists.intro; apply And.intro; (focus (intro w' hC; go_simp; exact rfl)); go_simp; refine hK _ ?_; clear hK K) | (refine mix_skip ?_ (fun K hK => ?_); (focus (first | rfl | (go_simp; done))); go_simp; refine hK _ ?_; clear hK K))
    refine mix_done ?_
    go_wp2_with fail
    go_ret
    exact ⟨⟨62, rfl, fun h => by omega, fun h => by omega⟩, hbel1.trans (hbel2.mono hbel1.size)⟩
  · have hd0 : ¬ done < 0 := by omega
    have hd1 := hd.1
    have hd2 : ¬ b - 5 < done := by omega
    go_wp2_with fail
    (refine wp_region_mix [0, 1, 2, 3, 4, 5, 6, 7, 8, 9, 10, 11, 12, 13, 14, 15, 16, 17, 18, 19, 20, 21, 22, 23, 24, 25, 26, 27, 28, 29, 30, 31, 32, 33, 34, 35, 36, 37, 38, 39, 40, 41, 42, 43, 44, 45, 46, 47, 48, 49] [(true, true), (true, false), (true, true), (true, true), (true, false), (true, true), (true, true), (true, true), (true, false), (true, true), (true, true), (true, true), (true, false), (true, true), (true, true), (true, true), (true, false), (true, true), (true, false), (true, true), (true, true), (true, true), (true, true), (true, true), (true, true), (true, false), (true, true), (true, true), (true, true), (true, true), (true, false), (true, false), (false, true), (true, true), (true, true), (true, true), (true, true), (true, false), (true, true), (true, true), (true, true), (true, false), (true, true), (true, true), (true, true), (true, false), (true, true), (true, true), (true, true), (true, true)] [0, 1, 3, 0, 8, 31, 63, 127, 255, 511, 1023, 2047, 4095, 8191, 16383, 32767, 65535, 32767, 163839, 524287, 1048575, 2097151, 4194303, 8388607, 16777215, 33554431, 67108863, 134217727, 268435455, 536870911, 1073741823, 536870911, 2684354559, 8589934591, 17179869183, 34359738367, 68719476735, 137438953471, 274877906943, 549755813887, 1099511627775, 2199023255551, 4398046511103, 8796093022207, 17592186044415, 35184372088831, 70368744177663, 140737488355327, 281474976710655, 562949953421311] (fun w' => Below w1.heap.size w1 w') (by kernel_rfl) (by kernel_rfl) ?_ ?_; rotate_left; simp only [pickL, List.map_cons, List.map_nil, List.getD_cons_succ, List.getD_cons_zero])
    rotate_left
    exact ⟨rfl, rfl, rfl, Nat.le_refl _, fun _ _ => rfl⟩
    repeat (first | (refine mix_pure (fun hne K hK => ?_); go_simp; refine hK _ ?_; clear hK K hne) | (refine mix_load ?_ (fun K hK => ?_); (focus (first | rfl | (go_simp; done))); apply Exists.intro; apply And.intro; (focus (intro w' hC; go_simp; exact rfl)); go_simp; refine hK _ ?_; clear hK K) | (refine mix_skip ?_ (fun K hK => ?_); (focus (first | rfl | (go_simp; done))); go_simp; refine hK _ ?_; clear hK K))
    (refine mix_one (by first | rfl | (go_simp; done)) (fun R hR hX => ?_))
    go_wp2_with fail
    refine (Virtual_calls n b c d _ ⟨hb1, hb2⟩).mono ?_
    rintro e w2 ⟨rfl, hbv⟩
    have hbel2 : Below w1.heap.size w1 w2 := (⟨rfl, rfl, rfl, Nat.le_refl _, fun _ _ => rfl⟩ : Below w1.heap.size w1 w1.drew).trans (show Below w1.heap.size w1.drew w2 from hbv)
    go_wp2_with fail
    refine hR _ _ rfl ⟨_, hbel2, fun _ => rfl, ?_⟩
    clear hR hX R
    repeat (first | (refine mix_pure (fun hne K hK => ?_); go_simp; refine hK _ ?_; clear hK K hne) | (refine mix_load ?_ (fun K hK => ?_); (focus (first | rfl | (go_simp; done))); apply Exists.intro; apply And.intro; (focus (intro w' hC; go_simp; exact rfl)); go_simp; refine hK _ ?_; clear hK K) | (refine mix_skip ?_ (fun K hK => ?_); (focus (first | rfl | (go_simp; done))); go_simp; refine hK _ ?_; clear hK K))
    refine mix_done ?_
    go_wp2_with fail
    go_ret
    exact ⟨⟨62, rfl, fun h => by omega, fun h => by omega⟩, hbel1.trans (hbel2.mono hbel1.size)⟩
  · subst hd
    go_wp2_with fail
    (refine wp_region_mix [0, 1, 2, 3, 4, 5, 6, 7, 8, 9, 10, 11, 12, 13, 14, 15, 16, 17, 18, 19, 20, 21, 22, 23, 24, 25, 26, 27, 28, 29, 30, 31, 32, 33, 34, 35, 36, 37, 38, 39, 40, 41, 42, 43, 44, 45, 46, 47, 48, 49] [(true, true), (true, false), (true, true), (true, true), (true, false), (true, true), (true, true), (true, true), (true, false), (true, true), (true, true), (true, true), (true, false), (true, true), (true, true), (true, true), (true, false), (true, true), (true, false), (true, true), (true, true), (true, true), (true, true), (true, true), (true, true), (true, false), (true, true), (true, true), (true, true), (true, true), (true, false), (true, false), (false, true), (true, true), (true, true), (true, true), (true, true), (true, false), (true, true), (true, true), (true, true), (true, false), (true, true), (true, true), (true, true), (true, false), (true, true), (true, true), (true, true), (true, true)] [0, 1, 3, 0, 8, 31, 63, 127, 255, 511, 1023, 2047, 4095, 8191, 16383, 32767, 65535, 32767, 163839, 524287, 1048575, 2097151, 4194303, 8388607, 16777215, 33554431, 67108863, 134217727, 268435455, 536870911, 1073741823, 536870911, 2684354559, 8589934591, 17179869183, 34359738367, 68719476735, 137438953471, 274877906943, 549755813887, 1099511627775, 2199023255551, 4398046511103, 8796093022207, 17592186044415, 35184372088831, 70368744177663, 140737488355327, 281474976710655, 562949953421311] (fun w' => Below w1.heap.size w1 w') (by kernel_rfl) (by kernel_rfl) ?_ ?_; rotate_left; simp only [pickL, List.map_cons, List.map_nil, List.getD_cons_succ, List.getD_cons_zero])
    rotate_left
    exact ⟨rfl, rfl, rfl, Nat.le_refl _, fun _ _ => rfl⟩
    repeat (first | (refine mix_pure (fun hne K hK => ?_); go_simp; refine hK _ ?_; clear hK K hne) | (refine mix_load ?_ (fun K hK => ?_); (focus (first | rfl | (go_simp; done))); apply Exists.intro; apply And.intro; (focus (intro w' hC; go_simp; exact rfl)); go_simp; refine hK _ ?_; clear hK K) | (refine mix_skip ?_ (fun K hK => ?_); (focus (first | rfl | (go_simp; done))); go_simp; refine hK _ ?_; clear hK K))
    (refine mix_one (by first | rfl | (go_simp; done)) (fun R hR hX => ?_))
    go_wp2_with fail
    refine (Virtual_calls n b c d _ ⟨hb1, hb2⟩).mono ?_
    rintro e w2 ⟨rfl, hbv⟩
    have hbel2 : Below w1.heap.size w1 w2 := (⟨rfl, rfl, rfl, Nat.le_refl _, fun _ _ => rfl⟩ : Below w1.heap.size w1 w1.drew).trans (show Below w1.heap.size w1.drew w2 from hbv)
    have hd2 : ¬ b - 5 < 0 := by omega
    have hd3 : ¬ b < 5 := by omega
    have hd4 : 5 ≤ b := by omega
    go_wp2_with fail
    refine hR _ _ rfl ⟨_, hbel2, fun _ => rfl, ?_⟩
    clear hR hX R
    repeat (first | (refine mix_pure (fun hne K hK => ?_); go_simp; refine hK _ ?_; clear hK K hne) | (refine mix_load ?_ (fun K hK => ?_); (focus (first | rfl | (go_simp; done))); apply Exists.intro; apply And.intro; (focus (intro w' hC; go_simp; exact rfl)); go_simp; refine hK _ ?_; clear hK K) | (refine mix_skip ?_ (fun K hK => ?_); (focus (first | rfl | (go_simp; done))); go_simp; refine hK _ ?_; clear hK K))
    refine mix_done ?_
    have hv2 := hv1.below hbel2
    have hsz2 := hbel2.size
    have t1 := s1 w2 hbel2
    have t2 := s2 w2 hbel2
    have t0 := g0 w2 hbel2
    have hbel3 := hbel1.trans (hbel2.mono hbel1.size)
    have S2 := Lib.hid s2
    clear s1 s2 s3 s4 g0 g1 g2 g3 hbv
    have hdz : w.heap.size < w2.heap.size := by omega
    obtain ⟨ob, hob⟩ : ∃ ob, ob = Obj.cells (List.replicate (n + 1) (Value.int .i64 0)).toArray 3 := ⟨_, rfl⟩
    have hseen0 : (w2.alloc ob).ownsRow w.heap.size 3 1 (.slice (some ⟨w2.heap.size, 0, none⟩) (n + 1) (n + 1)) (n + 1) (seenRow n []) := by
      have := World.ownsRow_lit (base := w.heap.size) (e := 3) (size := 1) w2 (List.replicate (n + 1) (Value.int .i64 0)).toArray (n + 1) (by omega) (by unfold maxLen; omega) (by simp)
      rw [← hob] at this
      rw [← seen_zero]
      simpa using this
    have hnil : (w2.alloc ob).ownsRow (w2.heap.size + 1) 3 1 (.slice none 0 0) 0 [] := World.ownsRow_nil _ _ _ _
    have hab : Below w2.heap.size w2 (w2.alloc ob) := (Below.refl _ _).alloc (Nat.le_refl _) _
    have hv3 : RV (w2.alloc ob) (.slice a n cap) (xs.map i64v) := hv2.below hab
    have u1 := below_cell hab (b := w.heap.size) (o := 1) hdz t1
    have u2 := below_cell hab (b := w.heap.size) (o := 2) hdz t2
    have u0 := below_cell hab (b := w.heap.size + 1) (o := 0) (by omega) t0
    have hbel4 := hbel3.trans (hab.mono (by omega))
    have hsz3 : (w2.alloc ob).heap.size = w2.heap.size + 1 := by simp
    have hmk2 := hmk w2
    rw [← hob] at hmk2
    have HMK := Lib.hid hmk
    generalize hw3 : w2.alloc ob = w3 at hseen0 hnil hv3 u0 u1 u2 hbel4 hsz3 hmk2
    clear hab hob hw3 hv2 hv1 hmk
    go_wp2_with (at_builtin; refine wpList_append_RV rfl _ _ 38 rfl (w2.heap.size + 1) 3 ti (.int .i64 0) 8 Try.underlying38 hti hz0 hz1 hz2 rfl _ _ _ rfl hnil _ _ rfl hv3 ?c1 ?c2 ?c3 ?c4 ?_)
    case c1 =>
      intro u hu
      obtain ⟨z, _, rfl⟩ := List.mem_map.1 hu
      rfl
    case c2 => simp [maxLen]; omega
    case c3 => simp; omega
    case c4 => omega
    intro v4 w4 hown4 hg4 _
    have hseen4 := hseen0.kept hg4 (.inr (by simp [Value.ownBlock]))
    have hbel5 : Below w.heap.size w w4 := below_pushed hbel4 hnil hg4 (by omega) (by omega)
    have hb34 : Below w2.heap.size w3 w4 := below_pushed (Below.refl _ _) hnil hg4 (by omega) (by omega)
    have r2 := below_cell hb34 (b := w.heap.size) (o := 2) hdz u2
    have r0 := below_cell hb34 (b := w.heap.size + 1) (o := 0) (by omega) u0
    have hsz4 := hg4.size
    have hown4 : w4.ownsRow (w2.heap.size + 1) 3 1 v4 n (xs.map i64v) := by simpa [hlen] using hown4
    obtain ⟨a4, c4, rfl⟩ := own_slice hown4
    have hspe : (sp == 255) = false := by rw [beq_eq_false_iff_ne]; exact hsp
    have hspn : (sp != 255) = true := by rw [bne_iff_ne]; exact hsp
    clear hg4 hnil hv3 u1 u2 hmk2 hb34
    go_wp2_with (at_builtin; refine wpList_append_own _ rfl _ _ 38 rfl (w2.heap.size + 1) 3 ti (.int .i64 0) 1 8 Try.underlying38 hti hz0 hz1 hz2 rfl (by decide) _ _ _ rfl (hown4.alloc _) ⟨w4.heap.size, 0, none⟩ 1 1 [.int .i64 sp] rfl rfl ?c1 ?c2 ?c3 ?c4 ?c5 ?_)
    case c1 => exact cell_one_new _ _ _
    case c2 => exact one_cell rfl
    case c3 => unfold maxLen; omega
    case c4 => omega
    case c5 => simp; omega
    intro v5 w5 hown5 hg5 _
    have hne4 : ∀ k, (Value.slice a4 n c4).ownBlock = some k → w2.heap.size + 1 ≤ k := fun k hk => (hown4.lt k hk).1
    have hseen5 := (hseen4.alloc (.cells #[.int .i64 sp] 3)).kept hg5 (.inr (fun h => by have := hne4 w2.heap.size (by rw [← h]; rfl); omega))
    have hb45 : Below w2.heap.size w4 w5 := below_push (Below.refl _ _) hown4 _ hg5 (by omega) (by omega)
    have q0 := below_cell hb45 (b := w.heap.size + 1) (o := 0) (by omega) r0
    have hbel6 := below_push hbel5 hown4 _ hg5 hbel5.size (by omega)
    have hL5 : w5.ownsRow (w2.heap.size + 1) 3 1 v5 (n + 1) ((xs ++ [sp]).map i64v) := by simpa using hown5
    have hLl : (xs ++ [sp]).length = n + 1 := by simp [hlen]
    generalize hLe : xs ++ [sp] = L at hL5 hLl
    have HLE := Lib.hid hLe
    clear hLe
    rcases hL5.2 with ⟨_, h0⟩ | ⟨gl, cl, _, rfl, hgl, _⟩
    · exfalso; omega
    clear hseen4 hseen0 hown4 hown5 hg5 hbel5 hbel4 hbel3 hbel2 hbel1 hne4 r2 r0 t0 t1 t2 hlen hb45
    go_wp2_with fail
    go_loopw [82] (fun x82 wr => ∃ i : Nat, i ≤ n + 1 ∧ x82 = .int .i64 i ∧ wr.ownsRow w.heap.size 3 1 (.slice (some ⟨w2.heap.size, 0, none⟩) (n + 1) (n + 1)) (n + 1) (seenRow n (L.take i)) ∧
      wr.ownsRow (w2.heap.size + 1) 3 1 (.slice (some ⟨gl, 0, none⟩) (n + 1) cl) (n + 1) (L.map i64v) ∧ Below w.heap.size w wr ∧ wr.cell? ⟨w.heap.size + 1, 0, none⟩ = some (.int .i64 n) ∧ (∀ (j : Nat) (h : j < L.length), j < i → 0 ≤ L[j] ∧ L[j] ≤ (n : Int) ∧ L[j] ∉ L.take j)) (fun x82 _ => n + 1 - (intOf x82).toNat)
    case atStart => exact ⟨0, Nat.zero_le _, rfl, by simpa using hseen5, hL5, hbel6, q0, fun j _ h => by omega⟩
    case round =>
      clear hseen5 hL5 hbel6 q0
      obtain ⟨i, hi, rfl, hseen, hL, hbel, q0, hgood⟩ := hrel
      have hwz := (hseen.lt _ rfl).2
      have HGD := Lib.hid hgood
      clear hgood
      by_cases hin : i < n + 1
      · have hc := hL.cellAt (j := i) (by omega)
        have hci : (L.map i64v)[i]? = some (i64v (L[i]'(by omega))) := by simp [show i < L.length by omega]
        rw [hci] at hc
        have htk : L.take (i + 1) = L.take i ++ [L[i]'(by omega)] := List.take_succ_eq_append_getElem (by omega)
        have hbad : ¬ (0 ≤ L[i]'(by omega) ∧ L[i]'(by omega) ≤ (n : Int) ∧ L[i]'(by omega) ∉ L.take i) → ¬ GoodL n L := fun h hg => h (hg i (by omega))
        have hgnx : (0 ≤ L[i]'(by omega) ∧ L[i]'(by omega) ≤ (n : Int) ∧ L[i]'(by omega) ∉ L.take i) → ∀ (j : Nat) (h : j < L.length), j < i + 1 → 0 ≤ L[j] ∧ L[j] ≤ (n : Int) ∧ L[j] ∉ L.take j := fun h j hj hj2 => by
          by_cases e : j = i
          · subst e; exact h
          · exact HGD.out j hj (by omega)
        generalize L[i]'(by omega) = x at hc htk hbad hgnx
        have HB := Lib.hid hbad
        have HN := Lib.hid hgnx
        have HT := Lib.hid htk
        have hi2 : (i : Int) < (n : Int) + 1 := by omega
        clear hbad hgnx htk hci
        by_cases hx0 : x < 0
        · go_wp2_with fail
          go_ret
          exact ⟨⟨62, rfl, by rw [HLE.out]; exact ⟨fun h => by omega, fun h => absurd (by first | exact h.2 | exact h) (HB.out (fun h => by omega))⟩⟩, hbel⟩
        · by_cases hxn : (n : Int) < x
          · go_wp2_with fail
            go_ret
            exact ⟨⟨62, rfl, by rw [HLE.out]; exact ⟨fun h => by omega, fun h => absurd (by first | exact h.2 | exact h) (HB.out (fun h => by omega))⟩⟩, hbel⟩
          · obtain ⟨m, rfl⟩ : ∃ m : Nat, x = m := ⟨x.toNat, by omega⟩
            have hmn : m ≤ n := by omega
            have hmn2 : ¬ n < m := by omega
            have hmn3 : m < n + 1 := by omega
            have hmn4 : (m : Int) < (n : Int) + 1 := by omega
            have hcm := hseen.cellAt (j := m) (by omega)
            rw [seen_get _ _ _ hmn] at hcm
            by_cases hmem : (m : Int) ∈ L.take i
            · rw [if_pos hmem] at hcm
              clear hx0 hxn
              go_wp2_with fail
              go_ret
              exact ⟨⟨62, rfl, by rw [HLE.out]; exact ⟨fun h => by omega, fun h => absurd (by first | exact h.2 | exact h) (HB.out (fun h => h.2.2 hmem))⟩⟩, hbel⟩
            · rw [if_neg hmem] at hcm
              have hst := hseen.stored m (i64v 1)
              rw [seen_set _ _ _ hmn, ← HT.out] at hst
              have hLs := ownsRow_setCell_below (a := ⟨w2.heap.size, m, none⟩) hL (by show w2.heap.size < _; omega) (i64v 1)
              have hfr := hseen.frozenAt m
              have hgd := HN.out ⟨by omega, by omega, hmem⟩
              have hbst : Below w2.heap.size wr (wr.setCell ⟨w2.heap.size, m, none⟩ (i64v 1)) := (Below.refl w2.heap.size wr).grown hst.2 (Nat.le_of_lt hwz) (fun z hz => by cases hz; exact Nat.le_refl _)
              have HQ := Lib.hid (below_cell hbst (b := w.heap.size + 1) (o := 0) (by omega) q0)
              clear hbst
              have HST := Lib.hid hst
              have HLS := Lib.hid hLs
              have HGN := Lib.hid hgd
              have HM := Lib.hid hmem
              clear hst hLs hgd hmem hx0 hxn
              go_wp2_with fail
              go_roundw
              case rel => exact ⟨i + 1, by omega, by go_num, HST.out.1, HLS.out, hbel.grown HST.out.2 hbel.size (fun z hz => by cases hz; omega), HQ.out, HGN.out⟩
              case measure => simp [intOf]; omega
      · have hgd : GoodL n L := fun j hj => HGD.out j hj (by omega)
        have HD := Lib.hid hgd
        clear hgd
        have hi2 : ¬ (i : Int) < (n : Int) + 1 := by omega
        go_wp2_with fail
        go_ret
        exact ⟨⟨0, rfl, by rw [HLE.out]; exact ⟨fun _ => by first | exact ⟨rfl, HD.out⟩ | exact HD.out, fun _ => rfl⟩⟩, hbel⟩
end Go.Proofs.Ytoalihddfgehjaa
