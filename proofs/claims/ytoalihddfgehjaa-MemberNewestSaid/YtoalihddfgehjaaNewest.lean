/- member.Newest: the walk. -/
--only r1
import Derived.Test.YtoalihddfgehjaaMemSame
namespace Go.Proofs.Ytoalihddfgehjaa
set_option linter.unusedVariables false
set_option linter.unusedSimpArgs false
open Go.RowKit

/-- a set's five cells -/
structure SetC where
  q : Int
  v : Value
  s : Int
  d : Int
  n : Int
def SetC.cells (x : SetC) : Array Value := #[.int .u32 x.q, x.v, .int .i64 x.s, .int .i64 x.d, .int .i64 x.n]
def SetC.zero : SetC := ⟨0, .slice none 0 0, 0, 0, 0⟩
def SetC.Ok (x : SetC) : Prop := (0 ≤ x.q ∧ x.q ≤ 4294967295) ∧ ∃ a n c, x.v = .slice a n c
/-- a slice of sets -/
def RSet (w : World) (v : Value) (xs : List SetC) : Prop :=
  ∃ (a : Option Addr) (cap : Nat), v = .slice a xs.length cap ∧ xs.length ≤ cap ∧ cap ≤ maxLen ∧ (xs = [] ∨ ∃ b o, a = some ⟨b, o, none⟩ ∧ ∀ (i : Nat) (h : i < xs.length),
    w.cell? ⟨b, o + i * 5, none⟩ = some (.int .u32 xs[i].q) ∧ w.cell? ⟨b, o + i * 5 + 1, none⟩ = some xs[i].v ∧ w.cell? ⟨b, o + i * 5 + 2, none⟩ = some (.int .i64 xs[i].s) ∧ w.cell? ⟨b, o + i * 5 + 3, none⟩ = some (.int .i64 xs[i].d) ∧ w.cell? ⟨b, o + i * 5 + 4, none⟩ = some (.int .i64 xs[i].n))
theorem RSet.below {w w' : World} {v : Value} {xs : List SetC} (h : RSet w v xs) (hb : Below w.heap.size w w') : RSet w' v xs := by
  obtain ⟨a, cap, h1, h2, h3, h4⟩ := h
  refine ⟨a, cap, h1, h2, h3, h4.imp_right fun ⟨b, o, ha, hc⟩ => ⟨b, o, ha, fun i hi => ?_⟩⟩
  obtain ⟨c0, c1, c2, c3, c4⟩ := hc i hi
  exact ⟨below_cell hb (cell_lt c0) c0, below_cell hb (cell_lt c1) c1, below_cell hb (cell_lt c2) c2, below_cell hb (cell_lt c3) c3, below_cell hb (cell_lt c4) c4⟩

/-- which of the first k is the newest -/
def bestIx (xs : List SetC) : Nat → Nat
  | 0 => 0
  | k + 1 => if k = 0 ∨ (xs.getD k .zero).q > (xs.getD (bestIx xs k) .zero).q then k else bestIx xs k
theorem bestIx_lt (xs : List SetC) (k : Nat) (h : 0 < k) : bestIx xs k < k := by
  induction k with
  | zero => omega
  | succ k ih =>
    unfold bestIx
    split
    · omega
    · rename_i hn
      have : k ≠ 0 := fun e => hn (.inl e)
      have := ih (by omega)
      omega
def outAt (xs : List SetC) (k : Nat) : SetC := if k = 0 then .zero else xs.getD (bestIx xs k) .zero

theorem set5 {w : World} {b t : Nat} {x0 x1 x2 x3 x4 u0 u1 u2 u3 u4 : Value} (h : w.heap[b]? = some (.cells #[x0, x1, x2, x3, x4] t (0, 0))) :
    (((((w.setCell ⟨b, 0, none⟩ u0).setCell ⟨b, 1, none⟩ u1).setCell ⟨b, 2, none⟩ u2).setCell ⟨b, 3, none⟩ u3).setCell ⟨b, 4, none⟩ u4).heap[b]? = some (.cells #[u0, u1, u2, u3, u4] t (0, 0)) := by
  have h1 := set_at (o := 0) h u0
  have h2 := set_at (o := 1) h1 u1
  have h3 := set_at (o := 2) h2 u2
  have h4 := set_at (o := 3) h3 u3
  have h5 := set_at (o := 4) h4 u4
  rw [h5]; rfl
theorem set5_other {w : World} {b b' : Nat} {x : Obj} (u0 u1 u2 u3 u4 : Value) (h : w.heap[b']? = some x) (hn : b' ≠ b) :
    (((((w.setCell ⟨b, 0, none⟩ u0).setCell ⟨b, 1, none⟩ u1).setCell ⟨b, 2, none⟩ u2).setCell ⟨b, 3, none⟩ u3).setCell ⟨b, 4, none⟩ u4).heap[b']? = some x :=
  set_other _ (set_other _ (set_other _ (set_other _ (set_other _ h hn) hn) hn) hn) hn
theorem put5 {B : Nat} {w w1 : World} (hb : Below B w w1) (b : Nat) (u0 u1 u2 u3 u4 : Value) (hB : B ≤ b) :
    Below B w (((((w1.setCell ⟨b, 0, none⟩ u0).setCell ⟨b, 1, none⟩ u1).setCell ⟨b, 2, none⟩ u2).setCell ⟨b, 3, none⟩ u3).setCell ⟨b, 4, none⟩ u4) :=
  ((((hb.setCell (by exact hB) u0).setCell (by exact hB) u1).setCell (by exact hB) u2).setCell (by exact hB) u3).setCell (by exact hB) u4

set_option maxHeartbeats 1000000 in
theorem newest_calls (xs : List SetC) (v : Value) (w : World) (hv : RSet w v xs) (hok : ∀ x ∈ xs, x.Ok) (hn : xs.length ≤ 1000000) :
    Calls Try.prog 27 #[v] w fun e w' => e = .returned (.tuple #[.agg (outAt xs xs.length).cells, .bool (decide (0 < xs.length))]) ∧ Below w.heap.size w w' := by
  obtain ⟨a, cap, rfl, hl, hm, -⟩ := id hv
  unfold maxLen at hm
  have hout : ∀ k, k ≤ xs.length → (outAt xs k).Ok := fun k hk => by
    unfold outAt
    split
    · exact ⟨⟨by decide, by decide⟩, none, 0, 0, rfl⟩
    · rename_i h0
      have hlt := bestIx_lt xs k (by omega)
      have : xs.getD (bestIx xs k) .zero = xs[bestIx xs k]'(by omega) := by simp [List.getD, show bestIx xs k < xs.length by omega]
      rw [this]
      exact hok _ (List.getElem_mem _)
  have HOUT := Lib.hid hout
  have HOK := Lib.hid hok
  clear hout hok
  go_enter Try.func27, Try.ntmps27
  go_wp2_with fail
  have h2 : ((w.alloc (.cells #[.int .u32 0, .slice none 0 0, .int .i64 0, .int .i64 0, .int .i64 0] 40)).alloc (.cells #[.int .u32 0, .slice none 0 0, .int .i64 0, .int .i64 0, .int .i64 0] 40)).heap[w.heap.size]? =
    some (.cells #[.int .u32 0, .slice none 0 0, .int .i64 0, .int .i64 0, .int .i64 0] 40 (0, 0)) := heap_old _ (heap_is rfl)
  have h4 : ((w.alloc (.cells #[.int .u32 0, .slice none 0 0, .int .i64 0, .int .i64 0, .int .i64 0] 40)).alloc (.cells #[.int .u32 0, .slice none 0 0, .int .i64 0, .int .i64 0, .int .i64 0] 40)).heap[w.heap.size + 1]? =
    some (.cells #[.int .u32 0, .slice none 0 0, .int .i64 0, .int .i64 0, .int .i64 0] 40 (0, 0)) := heap_is (by simp)
  have hbel := ((Below.refl w.heap.size w).alloc (Nat.le_refl _) (.cells #[.int .u32 0, .slice none 0 0, .int .i64 0, .int .i64 0, .int .i64 0] 40)).alloc (by simp) (.cells #[.int .u32 0, .slice none 0 0, .int .i64 0, .int .i64 0, .int .i64 0] 40)
  generalize (w.alloc (.cells #[.int .u32 0, .slice none 0 0, .int .i64 0, .int .i64 0, .int .i64 0] 40)).alloc (.cells #[.int .u32 0, .slice none 0 0, .int .i64 0, .int .i64 0, .int .i64 0] 40) = w1 at h2 h4 hbel ⊢
  obtain ⟨p4, hp4⟩ : ∃ p4, p4 = w.heap.size + 1 := ⟨_, rfl⟩
  obtain ⟨p2, hp2⟩ : ∃ p2, p2 = w.heap.size := ⟨_, rfl⟩
  have hne : p2 < p4 := by omega
  have hge2 : w.heap.size ≤ p2 := by omega
  have hge4 : w.heap.size ≤ p4 := by omega
  rw [← hp4] at h4 ⊢
  rw [← hp2] at h2 ⊢
  clear hp4 hp2
  go_loopw [9] (fun i wr => ∃ k : Nat, k ≤ xs.length ∧ i = .int .i64 k ∧ wr.heap[p4]? = some (.cells (outAt xs k).cells 40 (0, 0)) ∧ wr.heap[p2]? = some (.cells #[.int .u32 0, .slice none 0 0, .int .i64 0, .int .i64 0, .int .i64 0] 40 (0, 0)) ∧ Below w.heap.size w wr) (fun i _ => xs.length - (intOf i).toNat)
  case atStart => exact ⟨0, Nat.zero_le _, rfl, h4, h2, hbel⟩
  case round =>
    clear h4 h2 hbel
    obtain ⟨k, hk, rfl, h4, h2, hbel⟩ := hrel
    obtain ⟨a0, n0, c0, hv0⟩ := (HOUT.out k hk).2
    have h4' : wr.heap[p4]? = some (.cells #[.int .u32 (outAt xs k).q, .slice a0 n0 c0, .int .i64 (outAt xs k).s, .int .i64 (outAt xs k).d, .int .i64 (outAt xs k).n] 40 (0, 0)) := by rw [h4]; simp only [SetC.cells, hv0]
    have hl4 := heap_lt h4
    have hl2 := heap_lt h2
    by_cases hlt : k < xs.length
    · obtain ⟨a', cap', ee, _, _, hx⟩ := hv.below hbel
      obtain ⟨b, o, rfl, hy⟩ := hx.resolve_left (fun e => by subst e; simp at hlt)
      simp only [Value.slice.injEq] at ee
      obtain ⟨rfl, -, rfl⟩ := ee
      obtain ⟨x0, x1, x2, x3, x4⟩ := hy k hlt
      obtain ⟨hxq, a1, n1, c1, hv1⟩ := HOK.out xs[k] (List.getElem_mem _)
      have hgk : xs.getD k .zero = xs[k] := by simp [List.getD, hlt]
      have hbx : b < wr.heap.size := cell_lt x0
      rw [hv1] at x1
      have HV1 := Lib.hid hv1
      have HV0 := Lib.hid hv0
      clear hx hy hv1 h4 hv0
      have h4 := h4'
      clear h4'
      (have h4_0 := cells_at h4 0 _ rfl; have h4_1 := cells_at h4 1 _ rfl; have h4_2 := cells_at h4 2 _ rfl; have h4_3 := cells_at h4 3 _ rfl; have h4_4 := cells_at h4 4 _ rfl)
      (have h4_f0 := froz_at h4 0; have h4_f1 := froz_at h4 1; have h4_f2 := froz_at h4 2; have h4_f3 := froz_at h4 3; have h4_f4 := froz_at h4 4)
      by_cases hk0 : k = 0 ∨ xs[k].q > (xs.getD (bestIx xs k) .zero).q
      · have hbest : outAt xs (k + 1) = xs[k] := by
          unfold outAt
          rw [if_neg (by omega), bestIx, hgk, if_pos hk0, hgk]
        have HB := Lib.hid hbest
        clear hbest hgk
        by_cases h0 : k = 0
        · have hkb : ((k : Int) == 0) = true := by simp [h0]
          clear hk0
          have h0' := Lib.hid h0
          clear h0
          go_wp2_with fail
          go_roundw
          case rel =>
            refine ⟨k + 1, by omega, by go_num, ?_, ?_, ?_⟩
            · rw [HB.out]
              have := set5 (u0 := .int .u32 xs[k].q) (u1 := .slice a1 n1 c1) (u2 := .int .i64 xs[k].s) (u3 := .int .i64 xs[k].d) (u4 := .int .i64 xs[k].n) h4
              rw [SetC.cells, HV1.out]
              exact heap_old _ this
            · exact heap_old _ (set5_other _ _ _ _ _ h2 (Nat.ne_of_lt hne))
            · exact (put5 hbel _ _ _ _ _ _ hge4).alloc (by simp only [size_set]; exact hbel.size) _
          case measure => simp [intOf]; omega
        · have hkb : ((k : Int) == 0) = false := by simp [h0]
          have hq : (outAt xs k).q < xs[k].q := by
            unfold outAt; rw [if_neg h0]; exact hk0.resolve_left h0
          clear hk0
          go_wp2_with fail
          go_roundw
          case rel =>
            refine ⟨k + 1, by omega, by go_num, ?_, ?_, ?_⟩
            · rw [HB.out]
              have := set5 (u0 := .int .u32 xs[k].q) (u1 := .slice a1 n1 c1) (u2 := .int .i64 xs[k].s) (u3 := .int .i64 xs[k].d) (u4 := .int .i64 xs[k].n) h4
              rw [SetC.cells, HV1.out]
              exact heap_old _ this
            · exact heap_old _ (set5_other _ _ _ _ _ h2 (Nat.ne_of_lt hne))
            · exact (put5 hbel _ _ _ _ _ _ hge4).alloc (by simp only [size_set]; exact hbel.size) _
          case measure => simp [intOf]; omega
      · have hk1 : ¬ k = 0 := fun e => hk0 (.inl e)
        have hbest : outAt xs (k + 1) = outAt xs k := by
          unfold outAt
          rw [if_neg (by omega), bestIx, hgk, if_neg hk0, if_neg hk1]
        have hq : ¬ (outAt xs k).q < xs[k].q := by
          intro e
          apply hk0
          right
          unfold outAt at e; rw [if_neg hk1] at e; exact e
        have HB := Lib.hid hbest
        have hkb : ((k : Int) == 0) = false := by simp [hk1]
        clear hbest hgk hk0
        go_wp2_with fail
        go_roundw
        case rel =>
          refine ⟨k + 1, by omega, by go_num, ?_, ?_, ?_⟩
          · rw [HB.out, SetC.cells, HV0.out]; exact heap_old _ h4
          · exact heap_old _ h2
          · exact hbel.alloc hbel.size _
        case measure => simp [intOf]; omega
    · obtain rfl : k = xs.length := by omega
      (have h4'_0 := cells_at h4' 0 _ rfl; have h4'_1 := cells_at h4' 1 _ rfl; have h4'_2 := cells_at h4' 2 _ rfl; have h4'_3 := cells_at h4' 3 _ rfl; have h4'_4 := cells_at h4' 4 _ rfl)
      (have h2_0 := cells_at h2 0 _ rfl; have h2_1 := cells_at h2 1 _ rfl; have h2_2 := cells_at h2 2 _ rfl; have h2_3 := cells_at h2 3 _ rfl; have h2_4 := cells_at h2 4 _ rfl)
      have h2f0 := froz_at h2 0
      have h2f1 := froz_at h2 1
      have h2f2 := froz_at h2 2
      have h2f3 := froz_at h2 3
      have h2f4 := froz_at h2 4
      go_wp2_with fail
      refine bodyPost_ret (res_ct rfl rfl (set5 h2) Try.underlying40 rfl (by kernel_rfl)) rfl ⟨?_, put5 hbel _ _ _ _ _ _ hge2⟩
      rw [SetC.cells, hv0]
      rfl
end Go.Proofs.Ytoalihddfgehjaa
