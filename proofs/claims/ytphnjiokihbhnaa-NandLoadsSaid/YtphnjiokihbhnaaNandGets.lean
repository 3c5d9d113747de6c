/- nand: is the power gone, is a chip dead, how often was a block erased. -/
--only r2
import Derived.Test.YtphnjiokihbhnaaNandLaw
namespace Go.Proofs.Ytphnjiokihbhnaa
set_option linter.unusedVariables false
set_option linter.unusedSimpArgs false
open Go.RowKit

set_option maxHeartbeats 1000000 in
theorem off_calls {w : World} {L : NdLay} {M : Nd} (h : NdAt true w L M) : Calls Try.prog 21 #[ptrV L.p] w fun e w' => e = .returned (.bool M.off) ∧ w = w' := by
  have hT := h.top
  simp only [topCells, if_true] at hT
  have t8 := cells_at hT 8 _ rfl
  simp only [List.getElem_toArray, List.getElem_cons_succ, List.getElem_cons_zero] at t8
  go_enter Try.func21, Try.ntmps21
  go_wp2_with fail
  go_ret
  exact ⟨rfl, rfl⟩

set_option maxHeartbeats 1000000 in
theorem dead_calls {w : World} {L : NdLay} {M : Nd} (h : NdAt true w L M) (c : Nat) (hc : c ≤ M.mem) : Calls Try.prog 23 #[ptrV L.p, .int .i64 c] w fun e w' => e = .returned (.bool (M.gone c)) ∧ w = w' := by
  have hT := h.top
  have hmm := h.ok.mem
  simp only [topCells, if_true] at hT
  have t5 := cells_at hT 5 _ rfl
  simp only [List.getElem_toArray, List.getElem_cons_succ, List.getElem_cons_zero] at t5
  have td := h.dead.cell (o := c) (by omega)
  have hc' : (c : Int) < (M.mem : Int) + 1 := by omega
  have hc0 : ¬ (M.mem : Int) + 1 ≤ (c : Int) := by omega
  have hcn : ¬ M.mem + 1 ≤ c := by omega
  go_enter Try.func23, Try.ntmps23
  go_wp2_with fail
  go_ret
  exact ⟨rfl, rfl⟩

theorem infoInt : (Try.prog.info? 3).map (fun i => (i.zero, i.size, i.bytes)) = some (some (.int .i64 0), 1, 8) := by kernel_rfl

set_option maxRecDepth 100000 in
set_option maxHeartbeats 2000000 in
theorem erases_calls {w : World} {L : NdLay} {M : Nd} (h : NdAt true w L M) (c : Nat) (hc : c ≤ M.mem) :
    Calls Try.prog 22 #[ptrV L.p, .int .i64 c] w fun e w' => ∃ x, e = .returned x ∧ w'.ownsRow w.heap.size 3 1 x M.blk ((List.range M.blk).map fun b => Value.int .i64 (M.erases c b)) ∧ Below w.heap.size w w' := by
  obtain ⟨i, hi, hz0, hz1, hz2⟩ := info_parts infoInt
  have hT := h.top
  have hmm := h.ok.mem
  have hbb := h.ok.blk
  simp only [topCells, if_true] at hT
  have t4 := cells_at hT 4 _ rfl
  simp only [List.getElem_toArray, List.getElem_cons_succ, List.getElem_cons_zero] at t4
  have hlp := heap_lt hT
  have tc := h.chips.cell (o := c) (by omega)
  have hlc := cell_lt tc
  have hc' : (c : Int) < (M.mem : Int) + 1 := by omega
  have hc0 : ¬ (M.mem : Int) + 1 ≤ (c : Int) := by omega
  have hcn : ¬ M.mem + 1 ≤ c := by omega
  have HN := Lib.hid h
  clear h hT
  go_enter Try.func22, Try.ntmps22
  go_wp2_with fail
  go_loopw [5, 31] (fun vb i wr => ∃ j : Nat, j ≤ M.blk ∧ i = .int .i64 j ∧ wr.ownsRow w.heap.size 3 1 vb j ((List.range j).map fun b => Value.int .i64 (M.erases c b)) ∧ Below w.heap.size w wr) (fun _ i _ => M.blk - (intOf i).toNat)
  case atStart => exact ⟨0, Nat.zero_le _, rfl, World.ownsRow_nil _ _ _ _, Below.refl _ _⟩
  case round =>
    obtain ⟨j, hj, rfl, hown, hbel⟩ := hrel
    obtain ⟨a0, k0, rfl⟩ := own_slice hown
    by_cases hlt : j < M.blk
    · have hlt' : (j : Int) < (M.blk : Int) := by omega
      have hN := HN.out.below hbel
      have hrow := hN.blk c (by omega)
      have c0 := hrow.cell (o := j * 4) (by omega)
      have c1 := hrow.cell (o := j * 4 + 1) (by omega)
      have c2 := hrow.cell (o := j * 4 + 2) (by omega)
      have c3 := hrow.cell (o := j * 4 + 3) (by omega)
      rw [blkCells0] at c0
      rw [blkCells1] at c1
      rw [blkCells2] at c2
      rw [blkCells3] at c3
      have hlb := cell_lt c0
      have hsz := hbel.size
      have hnx : ((List.range (j + 1)).map fun b => Value.int .i64 (M.erases c b)) = ((List.range j).map fun b => Value.int .i64 (M.erases c b)) ++ [.int .i64 (M.erases c j)] := by
        rw [List.range_succ, List.map_append]; rfl
      have HX := Lib.hid (⟨hnx, hlt⟩ : _ ∧ _)
      clear hnx hN hrow
      have hv1 : RV ((wr.alloc (.cells #[.slice (some ⟨L.pb c j, 0, none⟩) M.pgs (L.pc c j), .int .i64 (M.next c j), .int .i64 (M.erases c j), .bool (M.bad c j)] 89)).alloc (.cells #[.int .i64 (M.erases c j)] 3)) (.slice (some ⟨wr.heap.size + 1, 0, none⟩) 1 1) [.int .i64 (M.erases c j)] :=
        RV.block (cs := #[.int .i64 (M.erases c j)]) (heap_is (by simp)) rfl (Nat.le_refl _) (by unfold maxLen; omega) rfl
      have hb2 := ((Below.refl wr.heap.size wr).alloc (Nat.le_refl _) (.cells #[.slice (some ⟨L.pb c j, 0, none⟩) M.pgs (L.pc c j), .int .i64 (M.next c j), .int .i64 (M.erases c j), .bool (M.bad c j)] 89)).alloc (by simp) (.cells #[.int .i64 (M.erases c j)] 3)
      have hown2 := (hown.alloc (.cells #[.slice (some ⟨L.pb c j, 0, none⟩) M.pgs (L.pc c j), .int .i64 (M.next c j), .int .i64 (M.erases c j), .bool (M.bad c j)] 89)).alloc (.cells #[.int .i64 (M.erases c j)] 3)
      have hbel2 := hbel.trans (hb2.mono hsz)
      go_wp2_with (at_builtin; (refine wpList_append_RV rfl _ _ 22 rfl w.heap.size 3 i (.int .i64 0) 8 Try.underlying22 hi hz0 hz1 hz2 rfl (.slice a0 j k0) j _ rfl hown2 _ _ rfl hv1 (one_cell rfl) ?c1 ?c2 ?c3 ?_))
      case c1 => simp only [maxLen, List.length_cons, List.length_nil]; omega
      case c2 => simp only [List.length_cons, List.length_nil]; omega
      case c3 => exact hbel2.size
      intro v' w1 hown3 hg _
      have hb3 := below_pushed hbel2 hown2 hg hbel2.size (Nat.le_refl _)
      obtain ⟨a1, k1, rfl⟩ := own_slice hown3
      have HY := Lib.hid (⟨hown3, hb3⟩ : _ ∧ _)
      clear hown3 hb3 hg hbel2 hown2 hb2 hv1 hown hbel c0 c1 c2 c3
      go_wp2_with fail
      obtain ⟨hnx, hlt⟩ := HX.out
      go_roundw
      case rel => exact ⟨j + 1, hlt, by go_num, by rw [hnx]; exact HY.out.1, HY.out.2⟩
      case measure => simp [intOf]; omega
    · obtain rfl : j = M.blk := by omega
      go_wp2_with fail
      go_ret
      exact ⟨_, rfl, hown, hbel⟩
end Go.Proofs.Ytphnjiokihbhnaa
