/- r1.With. -/
--only r2
import Derived.Test.YtogejjbclimjjaaReader
import Derived.Test.YtogejjbclimjjaaRefPad
namespace Go.Proofs.Ytogejjbclimjjaa
set_option linter.unusedVariables false
set_option linter.unusedSimpArgs false
open Go.RowKit

set_option maxRecDepth 100000 in
set_option maxHeartbeats 1000000 in
theorem with_calls (v u : Value) (l m : List UInt8) (k : Nat) (w : World) (hv : RB w v l) (hu : RB w u m) (hk : k + m.length ≤ l.length) (hl : l.length ≤ 100000000) :
    Calls Try.prog 14 #[v, .int .i64 k, u] w fun e w' => ∃ x, e = .returned x ∧ w'.ownsRow w.heap.size 5 1 x l.length ((l.take k ++ m ++ l.drop (k + m.length)).map u8v) ∧ Below w.heap.size w w' := by
  obtain ⟨a, c, rfl, hlc, hm⟩ := hv.form
  obtain ⟨a2, c2, rfl, hlc2, hm2⟩ := hu.form
  obtain ⟨i, hi, hz0, hz1, hz2⟩ := info_parts infoU8
  unfold maxLen at hm hm2
  have hr1 : ∀ w, (Instr.sliceAt 23 (.slice a l.length c) none (some (.int .i64 k)) none).run Try.prog w = .ok (cutV a c 0 k) w := fun w => run_cut_to Try.underlying23 hi hz1 a l.length c k (by omega) w
  have hr2 : ∀ w, (Instr.sliceAt 23 (.slice a l.length c) (some (.int .i64 ((k : Int) + (m.length : Int)))) none none).run Try.prog w = .ok (cutV a c (k + m.length) l.length) w := fun w => by
    have := run_cut_from (P := Try.prog) Try.underlying23 hi hz1 a l.length c (k + m.length) (by omega) w
    rwa [Int.natCast_add] at this
  have hp1 : RV w (cutV a c 0 k) ((l.take k).map u8v) := by
    have := RV.cut hv (i := 0) (j := k) (by omega) (by simp; omega)
    simpa [List.map_take] using this
  have hp2 : RV w (cutV a c (k + m.length) l.length) ((l.drop (k + m.length)).map u8v) := by
    have := RV.cut hv (i := k + m.length) (j := l.length) (by omega) (by simp)
    rw [List.map_drop]
    rwa [List.take_of_length_le (by simp)] at this
  have hu' : RV w (.slice a2 m.length c2) (m.map u8v) := hu
  obtain ⟨y1, hy1⟩ : ∃ y, y = cutV a c 0 k := ⟨_, rfl⟩
  obtain ⟨y2, hy2⟩ : ∃ y, y = cutV a c (k + m.length) l.length := ⟨_, rfl⟩
  simp only [← hy1] at hr1
  simp only [← hy2] at hr2
  rw [← hy1] at hp1
  rw [← hy2] at hp2
  have hlen : ((l.take k ++ m ++ l.drop (k + m.length)).map u8v).length = l.length := by simp; omega
  obtain ⟨b1, hb1⟩ : ∃ b, b = (l.take k).map u8v := ⟨_, rfl⟩
  obtain ⟨b2, hb2⟩ : ∃ b, b = m.map u8v := ⟨_, rfl⟩
  obtain ⟨b3, hb3⟩ : ∃ b, b = (l.drop (k + m.length)).map u8v := ⟨_, rfl⟩
  have o1 : ∀ u ∈ b1, u.oneCell' = true := by rw [hb1]; exact oneCell_u8 _
  have o2 : ∀ u ∈ b2, u.oneCell' = true := by rw [hb2]; exact oneCell_u8 _
  have o3 : ∀ u ∈ b3, u.oneCell' = true := by rw [hb3]; exact oneCell_u8 _
  have n1 : b1.length ≤ 100000000 := by rw [hb1]; simp; omega
  have n2 : b2.length ≤ 100000000 := by rw [hb2]; simp; omega
  have n3 : b3.length ≤ 100000000 := by rw [hb3]; simp; omega
  have hcat : (l.take k ++ m ++ l.drop (k + m.length)).map u8v = b1 ++ b2 ++ b3 := by rw [hb1, hb2, hb3]; simp
  rw [hcat] at hlen ⊢
  have HLEN := Lib.hid hlen
  rw [← hb1] at hp1
  rw [← hb2] at hu'
  rw [← hb3] at hp2
  have N1 := Lib.hid n1
  have N2 := Lib.hid n2
  have N3 := Lib.hid n3
  clear hcat hlen hb1 hb2 hb3 hy1 hy2 hu hv n1 n2 n3
  go_enter Try.func14, Try.ntmps14
  go_wp2_with (at_builtin; (refine wpList_append_RV rfl _ _ 23 rfl w.heap.size 5 i (.int .u8 0) 1 Try.underlying23 hi hz0 hz1 hz2 rfl (.slice none 0 0) 0 [] rfl (World.ownsRow_nil _ _ _ _) y1 b1 rfl hp1 o1 ?c3 ?c4 (Nat.le_refl _) ?_))
  case c3 => unfold maxLen; have := N1.out; omega
  case c4 => have := N1.out; omega
  intro v1 w1 hown1 hg1 _
  have g1 := (Below.refl w.heap.size w).grown hg1 (Nat.le_refl _) (fun _ h => by cases h)
  replace hown1 : w1.ownsRow w.heap.size 5 1 v1 b1.length b1 := by simpa using hown1
  obtain ⟨q1, r1, rfl⟩ := own_slice hown1
  have hu1 := hu'.below g1
  have hs1 := g1.size
  clear hg1 hp1 hu'
  go_wp2_with (at_builtin; (refine wpList_append_RV rfl _ _ 23 rfl w.heap.size 5 i (.int .u8 0) 1 Try.underlying23 hi hz0 hz1 hz2 rfl (.slice q1 b1.length r1) b1.length b1 rfl hown1 (.slice a2 m.length c2) b2 rfl hu1 o2 ?c3 ?c4 hs1 ?_))
  case c3 => unfold maxLen; have := N1.out; have := N2.out; omega
  case c4 => have := N1.out; have := N2.out; omega
  intro v2 w2 hown2 hg2 _
  have g2 := g1.grown hg2 hs1 (fun b h => (hown1.lt b h).1)
  obtain ⟨q2, r2, rfl⟩ := own_slice hown2
  have hp3 := hp2.below g2
  have hs2 := g2.size
  clear hg2 hown1 hu1 hs1 g1 hp2
  go_wp2_with (at_builtin; (refine wpList_append_RV rfl _ _ 23 rfl w.heap.size 5 i (.int .u8 0) 1 Try.underlying23 hi hz0 hz1 hz2 rfl (.slice q2 (b1.length + b2.length) r2) (b1.length + b2.length) (b1 ++ b2) rfl hown2 y2 b3 rfl hp3 o3 ?c3 ?c4 hs2 ?_))
  case c3 => unfold maxLen; have := N1.out; have := N2.out; have := N3.out; omega
  case c4 => have := N1.out; have := N2.out; have := N3.out; omega
  intro v3 w3 hown3 hg3 _
  have g3 := g2.grown hg3 hs2 (fun b h => (hown2.lt b h).1)
  have hl3 : b1.length + b2.length + b3.length = (b1 ++ b2 ++ b3).length := by simp; omega
  rw [hl3, HLEN.out] at hown3
  have HE := Lib.hid (⟨hown3, g3⟩ : _ ∧ _)
  clear hown3 g3 hg3 hown2 hp3 hs2 g2 hl3
  go_wp2_with fail
  go_ret
  exact ⟨_, rfl, by rw [List.append_assoc]; exact HE.out.1, HE.out.2⟩
end Go.Proofs.Ytogejjbclimjjaa
