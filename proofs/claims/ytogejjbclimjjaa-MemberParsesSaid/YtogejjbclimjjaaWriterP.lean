/- cursor.Writer: Pad. -/
--only r2
import Derived.Test.YtogejjbclimjjaaWriter
namespace Go.Proofs.Ytogejjbclimjjaa
set_option linter.unusedVariables false
set_option linter.unusedSimpArgs false
open Go.RowKit

set_option maxRecDepth 100000 in
set_option maxHeartbeats 400000 in
theorem wPad_calls (p base n : Nat) (v : Value) (l : List UInt8) (w : World) (hw : Wr w p base v l) (hl : l.length ≤ 100000000) (hn : n ≤ 100000000) :
    Calls Try.prog 56 #[ptrV p, .int .i64 n] w fun e w' => e = .returned (ptrV p) ∧ ∃ v', Wr w' p base v' (l ++ List.replicate (n - l.length) 0) ∧ Grow p v v' w w' := by
  obtain ⟨i, hi, hz0, hz1, hz2⟩ := info_parts infoU8
  go_enter Try.func56, Try.ntmps56
  go_wp2_with fail
  go_loopw [] (fun wr => ∃ (k : Nat) (vv : Value), k ≤ n - l.length ∧ Wr wr p base vv (l ++ List.replicate k 0) ∧ Grow p v vv w wr) (fun wr => n - lenAt wr p)
  case atStart => exact ⟨0, v, Nat.zero_le _, by simpa using hw, Grow.refl _ _ _⟩
  case round =>
    clear hw
    obtain ⟨k, vv, hk, hwr, hg⟩ := hrel
    obtain ⟨L, hL⟩ : ∃ L, L = l ++ List.replicate k 0 := ⟨_, rfl⟩
    have hLl : L.length = l.length + k := by rw [hL, List.length_append, List.length_replicate]
    have hs : l ++ List.replicate (k + 1) 0 = L ++ [0] := by rw [hL, List.replicate_succ', List.append_assoc]
    rw [← hL] at hwr
    have HLL := Lib.hid hL
    have HS := Lib.hid hs
    have HL := Lib.hid hLl
    have HLA := Lib.hid hwr.lenAt
    clear hL hs hLl
    obtain ⟨av, kv, rfl⟩ := hwr.slice
    have hP := hwr.cell
    have hown := hwr.own
    have hsz := hwr.le
    (have hP_0 := cells_at hP 0 _ rfl)
    by_cases hlt : L.length < n
    · go_wp2_with (at_builtin; (refine wpList_append_row rfl _ _ 23 rfl base 5 i (.int .u8 0) 1 Try.underlying23 hi hz0 hz1 hz2 rfl (.slice av L.length kv) _ _ rfl (hown.alloc _) (.slice (some ⟨wr.heap.size, 0, none⟩) 1 1) [.int .u8 0] rfl (RV.single _ _) (one_cell rfl) ?c3 ?c4 ?c5 ?_))
      case c3 => unfold maxLen; simp; omega
      case c4 => simp; omega
      case c5 => simp; omega
      intro v' w1 hown' hgrow hrow
      obtain ⟨av', kv', rfl⟩ := own_slice hown'
      have hw1 : w1.heap[p]? = some (.cells #[.slice av L.length kv] 115 (0, 0)) := by
        rw [hgrow.block p (by have := heap_lt hP; simp; omega) (fun e => by have := (hown.lt p e.symm).1; have := hwr.lt; omega)]; exact heap_old _ hP
      have hput := Wr.put (m := [0]) hwr ((Below.refl wr.heap.size wr).alloc (Nat.le_refl _) (.cells #[.int .u8 0] 5)) (by
        rw [List.map_append, List.length_append]; exact hown') hgrow (fun b hb => (hrow b hb).imp_right fun h => by (try simp at h); omega)
      have HPUT := Lib.hid hput
      have HLA2 := Lib.hid hput.1.lenAt
      have hw1_0 := cells_at hw1 0 _ rfl
      have hw1_f := froz_at hw1 0
      clear hput hown hown' hgrow hrow hP hP_0 hw1 hwr
      go_wp2_with fail
      go_roundw
      case rel => exact ⟨k + 1, _, by have := HL.out; omega, by rw [HS.out]; exact HPUT.out.1, hg.trans HPUT.out.2⟩
      case measure =>
        have h1 := HLA.out
        have h2 := HLA2.out
        simp only [List.length_append, List.length_cons, List.length_nil] at h2
        show n - lenAt _ p < n - lenAt _ p
        rw [h1, h2]; omega
    · have hkk : k = n - l.length := by have := HL.out; omega
      have HK := Lib.hid hkk
      clear hkk hown hsz
      go_wp2_with fail
      go_ret
      exact ⟨rfl, _, by rw [← HK.out, ← HLL.out]; exact hwr, hg⟩

end Go.Proofs.Ytogejjbclimjjaa
