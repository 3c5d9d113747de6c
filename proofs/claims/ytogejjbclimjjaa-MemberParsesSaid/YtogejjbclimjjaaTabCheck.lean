/- remap.Table.Check. -/
--only r2
import Derived.Test.YtogejjbclimjjaaTabSpec
import Derived.Deep.DeepCutAuto
namespace Go.Proofs.Ytogejjbclimjjaa
set_option linter.unusedVariables false
set_option linter.unusedSimpArgs false
open Go.RowKit

theorem infoI64 : (Try.prog.info? 3).map (fun i => (i.zero, i.size, i.bytes)) = some (some (.int .i64 0), 1, 8) := by kernel_rfl
set_option maxRecDepth 100000 in
theorem virt_calls (c b p s : Int) (w : World) (hb : 5 ≤ b ∧ b ≤ 1000000) : Calls Try.prog 60 #[geoV c b p s] w fun e w' => e = .returned (.int .i64 (b - 5)) ∧ Below w.heap.size w w' := by
  obtain ⟨h1, h2⟩ := hb
  have hbel := (Below.refl w.heap.size w).alloc (Nat.le_refl _) (.cells #[.int .i64 c, .int .i64 b, .int .i64 p, .int .i64 s] 28)
  have e5 : b - 2 - 3 = b - 5 := by omega
  go_enter Try.func60, Try.ntmps60
  go_wp2_with fail
  go_ret
  exact ⟨rfl, hbel⟩

/-- the three lists of a table -/
def pick3 (a b c : Value) (k : Nat) : Value := if k = 0 then a else if k = 1 then b else c
def list3 (T : Tb) (k : Nat) : List Int := if k = 0 then T.place else if k = 1 then T.spare else T.tabs
def upTo3 (T : Tb) (k : Nat) : List Int := if k = 0 then [] else if k = 1 then T.place else if k = 2 then T.place ++ T.spare else T.all
theorem upTo3_succ (T : Tb) (k : Nat) (hk : k < 3) : upTo3 T (k + 1) = upTo3 T k ++ list3 T k := by
  have : k = 0 ∨ k = 1 ∨ k = 2 := by omega
  rcases this with rfl | rfl | rfl <;> simp [upTo3, list3, Tb.all]
theorem upTo3_all (T : Tb) (k : Nat) (hk : k < 3) : ∃ r, T.all = upTo3 T k ++ (list3 T k ++ r) := by
  have : k = 0 ∨ k = 1 ∨ k = 2 := by omega
  rcases this with rfl | rfl | rfl
  · exact ⟨T.spare ++ T.tabs, by simp [upTo3, list3, Tb.all]⟩
  · exact ⟨T.tabs, by simp [upTo3, list3, Tb.all]⟩
  · exact ⟨[], by simp [upTo3, list3, Tb.all]⟩

def TCheckEnds (b : Nat) (T : Tb) (w : World) (e : Ending) (w' : World) : Prop := e = .returned (.int .i64 (T.err b)) ∧ Below w.heap.size w w'
open Classical in
set_option maxRecDepth 100000 in
set_option maxHeartbeats 1000000 in
theorem tcheck_calls (c b p s : Nat) (T : Tb) (vp vs : Value) (w : World) (hT : TabAt w T vp vs) (hg : geoOk c b p s) (hpl : T.place.length ≤ 1000) (hsl : T.spare.length ≤ 1000) :
    Calls Try.prog 26 #[tabV T vp vs, geoV c b p s] w (TCheckEnds b T w) := by
  have hyes : T.Ok b → ∀ w', Below w.heap.size w w' → TCheckEnds b T w (.returned (.int .i64 0)) w' := fun h w' hb => ⟨by unfold Tb.err; rw [if_pos h]; rfl, hb⟩
  have hno : ¬ T.Ok b → ∀ w', Below w.heap.size w w' → TCheckEnds b T w (.returned (.int .i64 62)) w' := fun h w' hb => ⟨by unfold Tb.err; rw [if_neg h]; rfl, hb⟩
  generalize TCheckEnds b T w = Post at hyes hno ⊢
  have HY := Lib.hid hyes
  have HN := Lib.hid hno
  clear hyes hno
  obtain ⟨ap, cp, rfl, hp1, hp2⟩ := hT.p.form
  obtain ⟨ax, cx, rfl, hq1, hq2⟩ := hT.s.form
  have hal := ((Below.refl w.heap.size w).alloc (Nat.le_refl _) (.cells (T.cells (.slice ap T.place.length cp) (.slice ax T.spare.length cx)) 57)).alloc (by simp) (.cells #[.int .i64 c, .int .i64 b, .int .i64 p, .int .i64 s] 28)
  have hQ : ((w.alloc (.cells (T.cells (.slice ap T.place.length cp) (.slice ax T.spare.length cx)) 57)).alloc (.cells #[.int .i64 c, .int .i64 b, .int .i64 p, .int .i64 s] 28)).heap[w.heap.size]? = some (.cells (T.cells (.slice ap T.place.length cp) (.slice ax T.spare.length cx)) 57 (0, 0)) := heap_old _ (heap_is rfl)
  have hG : ((w.alloc (.cells (T.cells (.slice ap T.place.length cp) (.slice ax T.spare.length cx)) 57)).alloc (.cells #[.int .i64 c, .int .i64 b, .int .i64 p, .int .i64 s] 28)).heap[w.heap.size + 1]? = some (.cells #[.int .i64 c, .int .i64 b, .int .i64 p, .int .i64 s] 28 (0, 0)) := heap_is (by simp)
  obtain ⟨q, hq⟩ : ∃ q, q = w.heap.size := ⟨_, rfl⟩
  unfold Tb.cells at hal hQ hG
  generalize hw1 : (w.alloc (.cells #[.int .u32 T.seq, .slice ap T.place.length cp, .slice ax T.spare.length cx, .int .i64 T.t0, .int .i64 T.t1] 57)).alloc (.cells #[.int .i64 c, .int .i64 b, .int .i64 p, .int .i64 s] 28) = w1 at hal hQ hG
  have HW := Lib.hid hw1
  clear hw1
  rw [← hq] at hQ hG
  have hT1 := hT.below hal
  have k0 := cells_at hG 0 _ rfl
  have k1 := cells_at hG 1 _ rfl
  have k2 := cells_at hG 2 _ rfl
  have k3 := cells_at hG 3 _ rfl
  simp only [List.getElem_toArray, List.getElem_cons_succ, List.getElem_cons_zero] at k0 k1 k2 k3
  have hlg := heap_lt hG
  have HG := Lib.hid hg
  have hch := gcheck_calls c b p s w1
  unfold CheckEnds at hch
  rw [if_pos hg] at hch
  have HCH := Lib.hid hch
  obtain ⟨g1, g2, g3, g4, -⟩ := hg
  have HX := Lib.hid (⟨hal, hQ, hG, hT1, hq⟩ : _ ∧ _ ∧ _ ∧ _ ∧ _)
  clear hal hQ hG hT1 hT hch
  unfold tabV Tb.cells
  go_enter Try.func26, Try.ntmps26
  go_wp2_with fail
  rw [HW.out, ← hq]
  clear hq HW
  go_wp2_with fail
  refine HCH.out.mono ?_
  rintro e w2 ⟨rfl, hb2⟩
  obtain ⟨hal, hQ, hG, hT1, hq⟩ := HX.out
  have hB2 := hal.trans (hb2.mono hal.size)
  have hQ2 := heap_keep hb2 hQ
  have hG2 := heap_keep hb2 hG
  have hT2 := hT1.below hb2
  have hqw : w.heap.size ≤ w2.heap.size := hB2.size
  have HX2 := Lib.hid (⟨hB2, hQ2, hG2, hT2, hq⟩ : _ ∧ _ ∧ _ ∧ _ ∧ _)
  have p1 : ∀ w', Below w2.heap.size w2 w' → w'.cell? ⟨q, 1, none⟩ = some (.slice ap T.place.length cp) := fun w' h => cells_at (heap_keep h hQ2) 1 _ rfl
  have k0 : ∀ w', Below w2.heap.size w2 w' → w'.cell? ⟨q + 1, 0, none⟩ = some (.int .i64 c) := fun w' h => cells_at (heap_keep h hG2) 0 _ rfl
  have k1 : ∀ w', Below w2.heap.size w2 w' → w'.cell? ⟨q + 1, 1, none⟩ = some (.int .i64 b) := fun w' h => cells_at (heap_keep h hG2) 1 _ rfl
  have k2 : ∀ w', Below w2.heap.size w2 w' → w'.cell? ⟨q + 1, 2, none⟩ = some (.int .i64 p) := fun w' h => cells_at (heap_keep h hG2) 2 _ rfl
  have k3 : ∀ w', Below w2.heap.size w2 w' → w'.cell? ⟨q + 1, 3, none⟩ = some (.int .i64 s) := fun w' h => cells_at (heap_keep h hG2) 3 _ rfl
  clear hal hQ hG hT1 hq hb2 hB2 hQ2 hG2 hT2 HX HCH hlg
  go_wp2_with fail
  (refine wp_region_mix [0, 1, 2, 3, 4, 5] [(true, true), (true, false), (true, true), (true, false), (false, true), (true, true)] [0, 1, 3, 0, 8, 31] (fun w' => Below w2.heap.size w2 w') (by kernel_rfl) (by kernel_rfl) ?_ ?_; rotate_left; simp only [pickL, List.map_cons, List.map_nil, List.getD_cons_succ, List.getD_cons_zero])
  rotate_left
  exact (Below.refl _ _).drew
  have hC : Below w2.heap.size w2 w2.drew := (Below.refl _ _).drew
  repeat (first | (refine mix_pure (fun hne K hK => ?_); go_simp; refine hK _ ?_; clear hK K hne) | (refine mix_load ?_ (fun K hK => ?_); (focus (first | rfl | (go_simp; done))); apply Exists.intro; apply And.intro; (focus (intro w' hC; go_simp; exact rfl)); go_simp; refine hK _ ?_; clear hK K) | (refine mix_skip ?_ (fun K hK => ?_); (focus (first | rfl | (go_simp; done))); go_simp; refine hK _ ?_; clear hK K))
  (refine mix_one (by first | rfl | (go_simp; done)) (fun R hR hX => ?_))
  go_wp2_with fail
  refine (virt_calls c b p s _ ⟨by omega, by omega⟩).mono ?_
  rintro e w3 ⟨rfl, hb3⟩
  replace hC := hC.trans (hb3.mono hC.size)
  clear hb3
  go_wp2_with fail
  refine hR _ _ rfl ⟨_, hC, fun _ => rfl, ?_⟩
  clear hR hX R
  repeat (first | (refine mix_pure (fun hne K hK => ?_); go_simp; refine hK _ ?_; clear hK K hne) | (refine mix_load ?_ (fun K hK => ?_); (focus (first | rfl | (go_simp; done))); apply Exists.intro; apply And.intro; (focus (intro w' hC; go_simp; exact rfl)); go_simp; refine hK _ ?_; clear hK K) | (refine mix_skip ?_ (fun K hK => ?_); (focus (first | rfl | (go_simp; done))); go_simp; refine hK _ ?_; clear hK K))
  refine mix_done ?_
  clear p1 k0 k1 k2 k3
  obtain ⟨hB2, hQ2, hG2, hT2, hq⟩ := HX2.out
  have hB3 := hB2.trans (hC.mono hB2.size)
  have hQ3 := heap_keep hC hQ2
  have hG3 := heap_keep hC hG2
  have hT3 := hT2.below hC
  have HX3 := Lib.hid (⟨hB3, hQ3, hG3, hT3, hq⟩ : _ ∧ _ ∧ _ ∧ _ ∧ _)
  have k1 := cells_at hG3 1 _ rfl
  simp only [List.getElem_toArray, List.getElem_cons_succ, List.getElem_cons_zero] at k1
  have hlg3 := heap_lt hG3
  clear hB2 hQ2 hG2 hT2 hC hB3 hQ3 hG3 hT3 hq HX2
  by_cases hlen : T.place.length + 5 = b
  rotate_left
  · have HE := Lib.hid (HN.out (fun h => hlen h.1) w3 HX3.out.1)
    have e1 : ((T.place.length : Int) != (b : Int) - 5) = true := by simp; omega
    clear hlen
    go_wp2_with fail
    exact HE.out
  · have e1 : ((T.place.length : Int) != (b : Int) - 5) = false := by simp; omega
    have HLEN := Lib.hid hlen
    have hmk : ∀ w, (Instr.makeSlice 22 (.int .i64 b) (.int .i64 b)).run Try.prog w = .ok (.slice (some ⟨w.heap.size, 0, none⟩) b b) (w.alloc (.cells (madeCells #[.int .i64 0] b) 3)) := fun w => by
      have := make_any Try.underlying22 infoI64 b (by omega) (by omega) w
      rw [Nat.mul_one] at this
      exact this
    obtain ⟨sb, hsb⟩ : ∃ sb, sb = w3.heap.size := ⟨_, rfl⟩
    have hal := (Below.refl w3.heap.size w3).alloc (Nat.le_refl _) (.cells (madeCells #[.int .i64 0] b) 3)
    have hrow0 : Row (w3.alloc (.cells (madeCells #[.int .i64 0] b) 3)) sb b (fun o => .int .i64 (if (o : Int) ∈ ([] : List Int) then 1 else 0)) := by
      refine (Row.made (z := #[Value.int .i64 0]) (n := b) (t := 3) hsb (by decide) (fun v hv => ?_)).congr fun o ho => ?_
      · simp at hv; subst hv; exact nb_i64 _
      · simp [Nat.mod_one]
    clear hlen
    go_upto_region 7 with (fail)
    rw [← hsb]
    generalize w3.alloc (.cells (madeCells #[.int .i64 0] b) 3) = w4 at hal hrow0 ⊢
    obtain ⟨hB3, hQ3, hG3, hT3, hq⟩ := HX3.out
    have hQ4 := heap_keep hal hQ3
    have p1 := cells_at hQ4 1 _ rfl
    have p2 := cells_at hQ4 2 _ rfl
    simp only [List.getElem_toArray, List.getElem_cons_succ, List.getElem_cons_zero] at p1 p2
    have hlq4 := heap_lt hQ4
    have HSB := Lib.hid hsb
    have HAL := Lib.hid hal
    clear hB3 hQ3 hG3 hT3 hQ4 hq hsb hal
    (refine wp_region_mix [0, 1, 2, 3, 4, 5, 6, 7] [(true, true), (true, false), (true, true), (true, false), (true, true), (true, true), (true, true), (true, true)] [0, 1, 0, 4, 0, 16, 63, 0] _ (by kernel_rfl) (by kernel_rfl) (rfl : _ = _) ?_; simp only [pickL, List.map_cons, List.map_nil, List.getD_cons_succ, List.getD_cons_zero])
    (repeat (first | (refine mix_pure (fun hne K hK => ?_); go_simp; refine hK _ ?_; clear hK K hne) | (refine mix_load ?_ (fun K hK => ?_); (focus (first | rfl | (go_simp; done))); go_simp; refine hK _ ?_; clear hK K) | (refine mix_skip ?_ (fun K hK => ?_); (focus (first | rfl | (go_simp; done))); go_simp; refine hK _ ?_; clear hK K)))
    refine mix_done ?_
    clear p1 p2
    go_wp2_with fail
    go_loopw [32] (fun i wr => ∃ k : Nat, k ≤ 3 ∧ i = .int .i64 k ∧ Below w3.heap.size w3 wr ∧ Row wr sb b (fun o => .int .i64 (if (o : Int) ∈ upTo3 T k then 1 else 0)) ∧ Tried b (upTo3 T k)) (fun i _ => 3 - (intOf i).toNat)
    case atStart => exact ⟨0, by omega, rfl, HAL.out.drew, hrow0.below (Below.refl _ _).drew, Tried.nil b⟩
    case round =>
      clear hrow0
      obtain ⟨k, hk, rfl, hbel, hrow, htr⟩ := hrel
      generalize wr = wo at hbel hrow ⊢
      by_cases hk3 : k < 3
      · have hk3' : (k : Int) < 3 := by omega
        have hix : ∀ w, (Instr.index 126 (.agg #[.slice ap T.place.length cp, .slice ax T.spare.length cx, .slice (some ⟨q, 3, none⟩) 2 2]) (.int .i64 k)).run Try.prog w = .ok (pick3 (.slice ap T.place.length cp) (.slice ax T.spare.length cx) (.slice (some ⟨q, 3, none⟩) 2 2) k) w := fun w => by
          have : k = 0 ∨ k = 1 ∨ k = 2 := by omega
          rcases this with rfl | rfl | rfl <;> rfl
        have hl : RI w3 (pick3 (.slice ap T.place.length cp) (.slice ax T.spare.length cx) (.slice (some ⟨q, 3, none⟩) 2 2) k) (list3 T k) := by
          obtain ⟨hB3, hQ3, hG3, hT3, hq⟩ := HX3.out
          have : k = 0 ∨ k = 1 ∨ k = 2 := by omega
          rcases this with rfl | rfl | rfl
          · exact hT3.p
          · exact hT3.s
          · refine ⟨some ⟨q, 3, none⟩, 2, rfl, by simp [list3, Tb.tabs], by simp [maxLen], (fun h => by cases h), .inr ⟨q, 3, rfl, fun i hi => ?_⟩⟩
            have hi : i < 2 := by simpa [list3, Tb.tabs] using hi
            have : i = 0 ∨ i = 1 := by omega
            rcases this with rfl | rfl
            · exact cells_at hQ3 3 _ rfl
            · exact cells_at hQ3 4 _ rfl
        have hll : (list3 T k).length ≤ 1000 := by
          have : k = 0 ∨ k = 1 ∨ k = 2 := by omega
          rcases this with rfl | rfl | rfl
          · exact hpl
          · exact hsl
          · simp [list3, Tb.tabs]
        have hup := upTo3_succ T k hk3
        have hall := upTo3_all T k hk3
        obtain ⟨al, cl, hvk, hl1, hl2⟩ := hl.form
        rw [hvk] at hix hl
        generalize pick3 (.slice ap T.place.length cp) (.slice ax T.spare.length cx) (.slice (some ⟨q, 3, none⟩) 2 2) k = vk at hvk
        clear hvk
        generalize list3 T k = lk at hix hl hll hup hall hl1
        generalize upTo3 T k = dn at hrow htr hup hall
        have HL := Lib.hid (⟨hl, hup, hall, htr⟩ : _ ∧ _ ∧ _ ∧ _)
        have HK := Lib.hid hk3
        clear hl hup hall htr hk3
        go_wp2_with fail
        clear hix
        go_loopw [37] (fun i wr => ∃ j : Nat, j ≤ lk.length ∧ i = .int .i64 j ∧ Below w3.heap.size w3 wr ∧ Row wr sb b (fun o => .int .i64 (if (o : Int) ∈ dn ++ lk.take j then 1 else 0)) ∧ Tried b (dn ++ lk.take j)) (fun i _ => lk.length - (intOf i).toNat)
        case atStart => exact ⟨0, by omega, rfl, hbel, by rw [List.take_zero, List.append_nil]; exact hrow, by rw [List.take_zero, List.append_nil]; exact HL.out.2.2.2⟩
        case round =>
          clear hbel hrow
          obtain ⟨j, hj, rfl, hbel, hrow, htr⟩ := hrel
          by_cases hjl : j < lk.length
          · have hj' : (j : Int) < (lk.length : Int) := by omega
            obtain ⟨lb, lo, lc, hle, hc⟩ := (HL.out.1.below hbel).at hjl
            simp only [Value.slice.injEq] at hle
            obtain ⟨rfl, -, rfl⟩ := hle
            have hlc := cell_lt hc
            have htk : lk.take (j + 1) = lk.take j ++ [lk[j]] := List.take_succ_eq_append_getElem hjl
            have hdr : lk = lk.take j ++ lk[j] :: lk.drop (j + 1) := by simp
            have hbad : (lk[j] < 0 ∨ (b : Int) ≤ lk[j] ∨ lk[j] ∈ dn ++ lk.take j) → Post (.returned (.int .i64 62)) wr := fun h => by
              refine HN.out (fun hok => ?_) wr (HX3.out.1.trans (hbel.mono HX3.out.1.size))
              obtain ⟨r, hr⟩ := HL.out.2.2.1
              have ht := ((Tb.ok_iff b T).mp hok).2
              have e : lk ++ r = lk.take j ++ (lk[j] :: (lk.drop (j + 1) ++ r)) := by
                have := congrArg (· ++ r) hdr
                simpa only [List.append_assoc, List.cons_append] using this
              rw [hr, e, ← List.append_assoc] at ht
              exact not_tried (n := b) (l := dn ++ lk.take j) (r := lk.drop (j + 1) ++ r) h ht
            have hkg := cells_at (heap_keep hbel HX3.out.2.2.1) 1 _ rfl
            simp only [List.getElem_toArray, List.getElem_cons_succ, List.getElem_cons_zero] at hkg
            have hlg := cell_lt hkg
            generalize lk[j] = x at hc htk hbad
            have HB := Lib.hid hbad
            have HT := Lib.hid (⟨htk, htr, hbel, hjl⟩ : _ ∧ _ ∧ _ ∧ _)
            clear hdr hbad htk htr hbel hjl
            by_cases h0 : x < 0
            · have HE := Lib.hid (HB.out (.inl h0))
              clear hrow
              go_wp2_with fail
              exact HE.out
            · have e1 : decide (x < 0) = false := by simp; omega
              by_cases h1 : (b : Int) ≤ x
              · have HE := Lib.hid (HB.out (.inr (.inl h1)))
                clear hrow
                go_wp2_with fail
                exact HE.out
              · have e2 : decide ((b : Int) ≤ x) = false := by simp; omega
                obtain ⟨n, rfl⟩ : ∃ n : Nat, x = n := ⟨x.toNat, by omega⟩
                have hnb : n < b := by omega
                have hs := hrow.cell (o := n) hnb
                have hf := hrow.froz n
                have hls := hrow.lt
                by_cases hin : (n : Int) ∈ dn ++ lk.take j
                · have HE := Lib.hid (HB.out (.inr (.inr hin)))
                  rw [if_pos hin] at hs
                  clear hrow hf
                  go_wp2_with fail
                  exact HE.out
                · rw [if_neg hin] at hs
                  have hset := (hrow.set (o := n) (.int .i64 1) hnb (nb_i64 _)).congr (g := fun o => .int .i64 (if (o : Int) ∈ dn ++ lk.take (j + 1) then 1 else 0)) (fun o ho => by
                    rw [HT.out.1, ← List.append_assoc]
                    by_cases e : o = n
                    · subst e; rw [if_pos rfl, if_pos (by simp)]
                    · rw [if_neg e]
                      by_cases e2 : (o : Int) ∈ dn ++ lk.take j
                      · rw [if_pos e2, if_pos (List.mem_append.mpr (.inl e2))]
                      · rw [if_neg e2, if_neg (fun h => (List.mem_append.mp h).elim e2 fun h => e (by have := List.mem_singleton.mp h; omega))])
                  have htr2 : Tried b (dn ++ lk.take (j + 1)) := by
                    rw [HT.out.1, ← List.append_assoc]
                    exact HT.out.2.1.snoc (by omega) (by omega) hin
                  have hbel2 : Below w3.heap.size w3 (wr.setCell ⟨sb, n, none⟩ (.int .i64 1)) := HT.out.2.2.1.setCell (by show w3.heap.size ≤ sb; rw [HSB.out]; exact Nat.le_refl _) _
                  have HZ := Lib.hid (⟨hset, htr2, hbel2, HT.out.2.2.2⟩ : _ ∧ _ ∧ _ ∧ _)
                  clear hset htr2 hbel2 hrow hin HT
                  go_wp2_with fail
                  go_roundw
                  case rel => exact ⟨j + 1, HZ.out.2.2.2, by go_num, HZ.out.2.2.1, HZ.out.1, HZ.out.2.1⟩
                  case measure => have := HZ.out.2.2.2; simp [intOf]; omega
          · obtain rfl : j = lk.length := by omega
            rw [List.take_length, ← HL.out.2.1] at hrow htr
            have HZ := Lib.hid (⟨hbel, hrow, htr⟩ : _ ∧ _ ∧ _)
            clear hbel hrow htr
            go_wp2_with fail
            go_roundw
            case rel => exact ⟨k + 1, HK.out, by go_num, HZ.out.1, HZ.out.2.1, HZ.out.2.2⟩
            case measure => have := HK.out; simp [intOf]; omega
      · obtain rfl : k = 3 := by omega
        have hok : T.Ok b := (Tb.ok_iff b T).mpr ⟨HLEN.out, by simpa [upTo3] using htr⟩
        have HE := Lib.hid (HY.out hok wo (HX3.out.1.trans (hbel.mono HX3.out.1.size)))
        clear hbel hrow htr hok
        go_wp2_with fail
        exact HE.out
end Go.Proofs.Ytogejjbclimjjaa
