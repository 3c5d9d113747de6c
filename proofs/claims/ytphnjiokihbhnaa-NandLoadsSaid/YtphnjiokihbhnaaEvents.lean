/- law 4: what comes, by both. -/
--only r2
import Derived.Test.YtphnjiokihbhnaaNandAt
import Derived.Test.YtphnjiokihbhnaaRefMake
import Derived.Test.YtphnjiokihbhnaaMix
namespace Go.Proofs.Ytphnjiokihbhnaa
set_option linter.unusedVariables false
set_option linter.unusedSimpArgs false
open Go.RowKit

theorem infoREv : (Try.prog.info? 103).map (fun i => (i.zero, i.size, i.bytes)) = some (some (.agg #[.int .i64 0, .int .i64 0, .int .i64 0, .slice none 0 0]), 4, 48) := by kernel_rfl
def reCell (xs : List Ev) (vl : Nat → Value) (o : Nat) : Value :=
  if o % 4 = 0 then .int .i64 (xs.getD (o / 4) .zero).op else if o % 4 = 1 then .int .i64 (xs.getD (o / 4) .zero).kind else if o % 4 = 2 then .int .i64 (xs.getD (o / 4) .zero).chip else vl (o / 4)
theorem reCell0 (xs : List Ev) (vl : Nat → Value) (k : Nat) : reCell xs vl (k * 4) = .int .i64 (xs.getD k .zero).op := by
  have h1 : k * 4 % 4 = 0 := by omega
  have h2 : k * 4 / 4 = k := by omega
  simp [reCell, h1, h2]
theorem reCell1 (xs : List Ev) (vl : Nat → Value) (k : Nat) : reCell xs vl (k * 4 + 1) = .int .i64 (xs.getD k .zero).kind := by
  have h1 : (k * 4 + 1) % 4 = 1 := by omega
  have h2 : (k * 4 + 1) / 4 = k := by omega
  simp [reCell, h1, h2]
theorem reCell2 (xs : List Ev) (vl : Nat → Value) (k : Nat) : reCell xs vl (k * 4 + 2) = .int .i64 (xs.getD k .zero).chip := by
  have h1 : (k * 4 + 2) % 4 = 2 := by omega
  have h2 : (k * 4 + 2) / 4 = k := by omega
  simp [reCell, h1, h2]
theorem reCell3 (xs : List Ev) (vl : Nat → Value) (k : Nat) : reCell xs vl (k * 4 + 3) = vl k := by
  have h1 : (k * 4 + 3) % 4 = 3 := by omega
  have h2 : (k * 4 + 3) / 4 = k := by omega
  simp [reCell, h1, h2]
def reRow (xs : List Ev) (vl : Nat → Value) (k : Nat) : List Value := (List.range (k * 4)).map (reCell xs vl)
theorem reRow_succ (xs : List Ev) (vl : Nat → Value) (k : Nat) : reRow xs vl (k + 1) = reRow xs vl k ++ [.int .i64 (xs.getD k .zero).op, .int .i64 (xs.getD k .zero).kind, .int .i64 (xs.getD k .zero).chip, vl k] := by
  unfold reRow
  rw [show (k + 1) * 4 = k * 4 + 1 + 1 + 1 + 1 by omega, List.range_succ, List.range_succ, List.range_succ, List.range_succ]
  simp only [List.map_append, List.map_cons, List.map_nil, List.append_assoc, List.cons_append, List.nil_append]
  rw [reCell0, reCell1, reCell2, reCell3]
theorem reRow_rev {w : World} {xs : List Ev} {vl : Nat → Value} {v : Value} {B : Nat} (h : w.ownsRow B 103 4 v xs.length (reRow xs vl xs.length)) (hv : ∀ i (h : i < xs.length), RB w (vl i) xs[i].left) :
    ∃ oa oc, v = .slice oa xs.length oc ∧ REv w oa oc xs (fun b => B ≤ b) := by
  rcases h.2 with ⟨rfl, h0⟩ | ⟨g, cap, cur, rfl, hgb, hgg, hnc, hcm, hcs, htk⟩
  · exact ⟨none, 0, by rw [h0], by omega, by simp [maxLen], fun _ => rfl, .inl (List.length_eq_zero_iff.mp h0)⟩
  · refine ⟨some ⟨g, 0, none⟩, cap, rfl, hnc, hcm, (fun h => by cases h), .inr ⟨g, 0, rfl, hgb, fun i hi => ?_⟩⟩
    have hcell : ∀ o, o < xs.length * 4 → w.cell? ⟨g, 0 + o, none⟩ = some (reCell xs vl o) := fun o ho => by
      have := h.cells (g := g) rfl o (reCell xs vl o) (by unfold reRow; simp [ho])
      rwa [add_plain] at this
    have hg : xs.getD i .zero = xs[i] := by simp [List.getD, hi]
    have c0 := hcell (i * 4) (by omega)
    have c1 := hcell (i * 4 + 1) (by omega)
    have c2 := hcell (i * 4 + 2) (by omega)
    have c3 := hcell (i * 4 + 3) (by omega)
    rw [reCell0, hg] at c0
    rw [reCell1, hg] at c1
    rw [reCell2, hg] at c2
    rw [reCell3] at c3
    exact ⟨vl i, c0, c1, c2, c3, hv i hi⟩

theorem below_step2 {w wr w1 : World} {e size n : Nat} {v : Value} {xs : List Value} (hb : Below w.heap.size w wr) (ho : wr.ownsRow w.heap.size e size v n xs) (hg : wr.grownBy w1 v.ownBlock) : Below w.heap.size w w1 :=
  hb.trans ((Only.of_grown hg).below hb.size fun b hlt h => by have := (ho.lt b h).1; omega)
/-- are they few, and short? -/
def evsSmall (xs : List Ev) : Prop := xs.length ≤ 30 ∧ ∀ x ∈ xs, x.left.length ≤ 400
def EventsEnds (ea : Option Addr) (ec : Nat) (xs : List Ev) (w : World) (e : Ending) (w' : World) : Prop :=
  Below w.heap.size w w' ∧ ((evsSmall xs ∧ ∃ oa oc, e = .returned (.tuple #[.slice ea xs.length ec, .slice oa xs.length oc, .bool true]) ∧ REv w' oa oc xs (fun b => w.heap.size ≤ b)) ∨ (¬ evsSmall xs ∧ e = .returned (.tuple #[.slice none 0 0, .slice none 0 0, .bool false])))

set_option maxRecDepth 100000 in
set_option maxHeartbeats 2000000 in
theorem events_calls (ea : Option Addr) (ec : Nat) (xs : List Ev) (w : World) (he : REv w ea ec xs (fun _ => True)) :
    Calls Try.prog 19 #[.slice ea xs.length ec] w (EventsEnds ea ec xs w) := by
  have hno : ¬ evsSmall xs → ∀ w', Below w.heap.size w w' → EventsEnds ea ec xs w (.returned (.tuple #[.slice none 0 0, .slice none 0 0, .bool false])) w' := fun h w' hb => ⟨hb, .inr ⟨h, rfl⟩⟩
  have hyes : evsSmall xs → ∀ w' oa oc, Below w.heap.size w w' → REv w' oa oc xs (fun b => w.heap.size ≤ b) → EventsEnds ea ec xs w (.returned (.tuple #[.slice ea xs.length ec, .slice oa xs.length oc, .bool true])) w' := fun h w' oa oc hb hr => ⟨hb, .inl ⟨h, oa, oc, rfl, hr⟩⟩
  generalize EventsEnds ea ec xs w = Post at hno hyes ⊢
  have HNO := Lib.hid hno
  have HYES := Lib.hid hyes
  clear hno hyes
  obtain ⟨i, hi, hz0, hz1, hz2⟩ := info_parts infoREv
  obtain ⟨vl, hvl⟩ : ∃ vl : Nat → Value, ∀ i (h : i < xs.length), ∃ b o, ea = some ⟨b, o, none⟩ ∧ w.cell? ⟨b, o + i * 4, none⟩ = some (.int .i64 xs[i].op) ∧ w.cell? ⟨b, o + i * 4 + 1, none⟩ = some (.int .i64 xs[i].kind) ∧ w.cell? ⟨b, o + i * 4 + 2, none⟩ = some (.int .i64 xs[i].chip) ∧ w.cell? ⟨b, o + i * 4 + 3, none⟩ = some (vl i) ∧ RB w (vl i) xs[i].left := by
    have hch : ∀ i, ∃ v : Value, ∀ h : i < xs.length, ∃ b o, ea = some ⟨b, o, none⟩ ∧ w.cell? ⟨b, o + i * 4, none⟩ = some (.int .i64 xs[i].op) ∧ w.cell? ⟨b, o + i * 4 + 1, none⟩ = some (.int .i64 xs[i].kind) ∧ w.cell? ⟨b, o + i * 4 + 2, none⟩ = some (.int .i64 xs[i].chip) ∧ w.cell? ⟨b, o + i * 4 + 3, none⟩ = some v ∧ RB w v xs[i].left := fun i => by
      by_cases h : i < xs.length
      · obtain ⟨b, o, v, h1, h2, h3, h4, h5, h6⟩ := he.at h
        exact ⟨v, fun _ => ⟨b, o, h1, h2, h3, h4, h5, h6⟩⟩
      · exact ⟨nilV, fun hh => absurd hh h⟩
    exact ⟨fun i => (hch i).choose, fun i h => (hch i).choose_spec h⟩
  have hcap := he.1
  have hmax := he.2.1
  unfold maxLen at hmax
  have HVL := Lib.hid hvl
  clear hvl he
  by_cases hlen : 30 < xs.length
  · have HX := Lib.hid (HNO.out (fun h => by have := h.1; omega) w (Below.refl _ _))
    go_enter Try.func19, Try.ntmps19
    go_wp2_with fail
    exact HX.out
  · go_enter Try.func19, Try.ntmps19
    go_wp2_with fail
    go_loopw [5, 6] (fun vb j wr => ∃ k : Nat, k ≤ xs.length ∧ j = .int .i64 k ∧ wr.ownsRow w.heap.size 103 4 vb k (reRow xs vl k) ∧ RowNB wr vb ∧ Below w.heap.size w wr ∧ ∀ x ∈ xs.take k, x.left.length ≤ 400) (fun _ j _ => xs.length - (intOf j).toNat)
    case atStart => exact ⟨0, Nat.zero_le _, rfl, World.ownsRow_nil _ _ _ _, RowNB.nil _, Below.refl _ _, fun x hx => by simp at hx⟩
    case round =>
      obtain ⟨k, hk, rfl, hown, hnb, hbel, hsm⟩ := hrel
      obtain ⟨a0, k0, rfl⟩ := own_slice hown
      by_cases hlt : k < xs.length
      · have hlt' : (k : Int) < (xs.length : Int) := by omega
        obtain ⟨b, o, rfl, c0, c1, c2, c3, hv⟩ := HVL.out k hlt
        have hlb := cell_lt c0
        replace c0 := below_cell hbel hlb c0
        replace c1 := below_cell hbel hlb c1
        replace c2 := below_cell hbel hlb c2
        replace c3 := below_cell hbel hlb c3
        replace hlb := cell_lt c0
        have hsz := hbel.size
        have hgd : xs.getD k .zero = xs[k] := by simp [List.getD, hlt]
        have hrs := reRow_succ xs vl k
        rw [hgd] at hrs
        have htk : xs.take (k + 1) = xs.take k ++ [xs[k]] := List.take_succ_eq_append_getElem hlt
        have hbad : ¬ xs[k].left.length ≤ 400 → ¬ evsSmall xs := fun h hh => h (hh.2 _ (List.getElem_mem hlt))
        generalize xs[k] = x at c0 c1 c2 c3 hv hrs htk hbad
        obtain ⟨xo, xk, xc, xl⟩ := x
        simp only at c0 c1 c2 c3 hv hrs hbad
        generalize vl k = xv at c3 hv hrs
        obtain ⟨xa, xcp, rfl, -, -⟩ := hv.form
        by_cases hl4 : 400 < xl.length
        · have HX := Lib.hid (HNO.out (hbad (by omega)) wr hbel)
          clear hown hnb hbel hsm hrs htk hbad
          go_wp2_with fail
          exact HX.out
        · have hsm2 : ∀ y ∈ xs.take (k + 1), y.left.length ≤ 400 := fun y hy => by
            rw [htk] at hy
            rcases List.mem_append.mp hy with h | h
            · exact hsm y h
            · obtain rfl := List.mem_singleton.mp h; show xl.length ≤ 400; omega
          have HX := Lib.hid (⟨hown, hnb, hbel, hsm2, hrs, hlt⟩ : _ ∧ _ ∧ _ ∧ _ ∧ _ ∧ _)
          clear hown hnb hbel hsm hsm2 hrs htk hbad
          go_wp2_with fail
          (refine wp_region_mix [0, 1, 2, 3, 4, 5, 6, 7, 8, 9, 10, 11, 12, 13, 14, 15, 16, 17, 18, 19, 20, 21, 22, 23, 24] [(true, true), (true, true), (true, true), (true, true), (true, true), (true, false), (true, true), (true, true), (true, true), (true, true), (true, false), (true, true), (true, true), (true, true), (true, true), (true, false), (true, true), (true, true), (true, true), (true, true), (true, false), (true, true), (false, false), (false, false), (true, true)] [0, 0, 0, 6, 14, 30, 0, 0, 192, 448, 960, 0, 0, 6144, 14336, 30720, 0, 0, 196608, 458752, 983040, 2097150, 4194302, 8388607, 16777215] _ (by kernel_rfl) (by kernel_rfl) (rfl : _ = _) ?_; simp only [pickL, List.map_cons, List.map_nil, List.getD_cons_succ, List.getD_cons_zero])
          (repeat (first | (refine mix_pure (fun hne K hK => ?_); go_simp; refine hK _ ?_; clear hK K hne) | (refine mix_load ?_ (fun K hK => ?_); (focus (first | rfl | (go_simp; done))); go_simp; refine hK _ ?_; clear hK K) | (refine mix_skip ?_ (fun K hK => ?_); (focus (first | rfl | (go_simp; done))); go_simp; refine hK _ ?_; clear hK K)))
          (refine mix_one (by first | rfl | (go_simp; done)) (fun R hR hX => ?_))
          go_wp2_with fail
          ((try simp only [wpList]); refine hR _ _ rfl ⟨fun w' => w' = _, rfl, (fun h => by cases h), ?_⟩; clear hR hX R)
          (refine mix_one (by first | rfl | (go_simp; done)) (fun R hR hX => ?_))
          obtain ⟨hown, hnb, hbel, hsm2, hrs, hlt⟩ := HX.out
          have hal := ((Below.refl wr.heap.size wr).alloc (Nat.le_refl _) (.cells #[.int .i64 xo, .int .i64 xk, .int .i64 xc, .slice xa xl.length xcp] 103)).drew
          have hown2 : ((wr.alloc (.cells #[.int .i64 xo, .int .i64 xk, .int .i64 xc, .slice xa xl.length xcp] 103)).drew).ownsRow w.heap.size 103 4 (.slice a0 k k0) k (reRow xs vl k) := own_only hown (Only.new hal fun _ => False) (fun _ _ => id)
          have hnb2 : RowNB ((wr.alloc (.cells #[.int .i64 xo, .int .i64 xk, .int .i64 xc, .slice xa xl.length xcp] 103)).drew) (.slice a0 k k0) := RowNB.only hown hnb (Only.new hal fun _ => False) (fun _ _ => id)
          have hR2 : ((wr.alloc (.cells #[.int .i64 xo, .int .i64 xk, .int .i64 xc, .slice xa xl.length xcp] 103)).drew).heap[wr.heap.size]? = some (.cells #[.int .i64 xo, .int .i64 xk, .int .i64 xc, .slice xa xl.length xcp] 103 (0, 0)) := heap_new wr _
          have hbel2 := hbel.trans (hal.mono hsz)
          go_wp2_with (at_builtin; (refine wpList_append_nb _ rfl _ _ 53 rfl w.heap.size 103 i (.agg #[.int .i64 0, .int .i64 0, .int .i64 0, .slice none 0 0]) 4 48 Try.underlying53 hi hz0 hz1 hz2 rfl (by decide) (.slice a0 k k0) k (reRow xs vl k) rfl hown2 ⟨wr.heap.size, 0, none⟩ 1 1 [.int .i64 xo, .int .i64 xk, .int .i64 xc, .slice xa xl.length xcp] rfl rfl (fun x u hx => by rw [add_plain, Nat.zero_add]; exact cells_at hR2 x u (by simpa using hx)) ?c2 ?c3 ?c4 hbel2.size hnb2 ?c7 ?c8 ?_))
          case c2 => exact ⟨rfl, rfl, rfl, rfl⟩
          case c3 => simp only [maxLen]; omega
          case c4 => omega
          case c7 => exact ⟨nb_i64 _, nb_slice _ _ _⟩
          case c8 => exact ⟨nb_i64 _, nb_i64 _, nb_i64 _, nb_slice _ _ _⟩
          intro v' w1 hown3 hg hnb3 _
          have hb3 := below_step2 hbel2 hown2 hg
          rw [← hrs] at hown3
          obtain ⟨a1, k1, rfl⟩ := own_slice hown3
          have HY := Lib.hid (⟨hown3, hnb3, hb3, hsm2, hlt⟩ : _ ∧ _ ∧ _ ∧ _ ∧ _)
          clear hown3 hnb3 hb3 hsm2 hlt hg hbel2 hR2 hnb2 hown2 hal hown hnb hbel hrs
          go_wp2_with fail
          ((try simp only [wpList]); refine hR _ _ rfl ⟨fun w' => w' = _, rfl, (fun h => by cases h), ?_⟩; clear hR hX R)
          (repeat (first | (refine mix_pure (fun hne K hK => ?_); go_simp; refine hK _ ?_; clear hK K hne) | (refine mix_load ?_ (fun K hK => ?_); (focus (first | rfl | (go_simp; done))); go_simp; refine hK _ ?_; clear hK K) | (refine mix_skip ?_ (fun K hK => ?_); (focus (first | rfl | (go_simp; done))); go_simp; refine hK _ ?_; clear hK K)))
          refine mix_done ?_
          go_wp2_with fail
          obtain ⟨hown3, hnb3, hb3, hsm2, hlt⟩ := HY.out
          go_roundw
          case rel => exact ⟨k + 1, hlt, by go_num, hown3, hnb3, hb3, hsm2⟩
          case measure => simp [intOf]; omega
      · obtain rfl : k = xs.length := by omega
        rw [List.take_length] at hsm
        obtain ⟨oa, oc, e1, hrev⟩ := reRow_rev hown fun i hi => by
          obtain ⟨b, o, -, -, -, -, -, hv⟩ := HVL.out i hi
          exact hv.below hbel
        have HX := Lib.hid (HYES.out ⟨by omega, hsm⟩ wr oa oc hbel hrev)
        rw [e1]
        clear hown hnb hbel hsm hrev e1
        go_wp2_with fail
        exact HX.out
end Go.Proofs.Ytphnjiokihbhnaa
