/- record.Open: what it tells of a page's bytes beside it. -/
--only r2
import Derived.Test.YtogejjbclimjjaaOpen1
namespace Go.Proofs.Ytogejjbclimjjaa
set_option linter.unusedVariables false
set_option linter.unusedSimpArgs false
open Go.RowKit

/-- what record.Open tells -/
def opened (d l : List UInt8) : Option Hdr := if l.length = 64 ∧ wellLaid l d = true ∧ 1 ≤ leAt l 2 1 ∧ leAt l 2 1 ≤ 6 then some (hdrOf l) else none
def Hdr.zero : Hdr := ⟨0, 0, 0, 0, 0, 0, 0⟩
def openedV : Option Hdr → Value
  | some h => .tuple #[h.v, .bool true]
  | none => .tuple #[Hdr.zero.v, .bool false]

theorem set7 {w1 : World} {b t : Nat} {x0 x1 x2 x3 x4 x5 x6 : Value} (u0 u1 u2 u3 u4 u5 u6 : Value) (h : w1.heap[b]? = some (.cells #[x0, x1, x2, x3, x4, x5, x6] t (0, 0))) :
    (((((((w1.setCell ⟨b, 0, none⟩ u0).setCell ⟨b, 1, none⟩ u1).setCell ⟨b, 2, none⟩ u2).setCell ⟨b, 3, none⟩ u3).setCell ⟨b, 4, none⟩ u4).setCell ⟨b, 5, none⟩ u5).setCell ⟨b, 6, none⟩ u6).heap[b]? = some (.cells #[u0, u1, u2, u3, u4, u5, u6] t (0, 0)) := by
  have h0 := set_at (o := 0) h u0
  simp only [List.setIfInBounds_toArray, List.set_cons_zero, List.set_cons_succ] at h0
  have h1 := set_at (o := 1) h0 u1
  simp only [List.setIfInBounds_toArray, List.set_cons_zero, List.set_cons_succ] at h1
  have h2 := set_at (o := 2) h1 u2
  simp only [List.setIfInBounds_toArray, List.set_cons_zero, List.set_cons_succ] at h2
  have h3 := set_at (o := 3) h2 u3
  simp only [List.setIfInBounds_toArray, List.set_cons_zero, List.set_cons_succ] at h3
  have h4 := set_at (o := 4) h3 u4
  simp only [List.setIfInBounds_toArray, List.set_cons_zero, List.set_cons_succ] at h4
  have h5 := set_at (o := 5) h4 u5
  simp only [List.setIfInBounds_toArray, List.set_cons_zero, List.set_cons_succ] at h5
  have h6 := set_at (o := 6) h5 u6
  simp only [List.setIfInBounds_toArray, List.set_cons_zero, List.set_cons_succ] at h6
  exact h6
theorem put7 {B : Nat} {w w1 : World} (hb : Below B w w1) (b : Nat) (u0 u1 u2 u3 u4 u5 u6 : Value) (hB : B ≤ b) (hw : B ≤ w.heap.size) : Below B w (((((((w1.setCell ⟨b, 0, none⟩ u0).setCell ⟨b, 1, none⟩ u1).setCell ⟨b, 2, none⟩ u2).setCell ⟨b, 3, none⟩ u3).setCell ⟨b, 4, none⟩ u4).setCell ⟨b, 5, none⟩ u5).setCell ⟨b, 6, none⟩ u6) :=
  ((((((((Only.of_below hb).set ⟨b, 0, none⟩ u0 fun _ => hB).set ⟨b, 1, none⟩ u1 fun _ => hB).set ⟨b, 2, none⟩ u2 fun _ => hB).set ⟨b, 3, none⟩ u3 fun _ => hB).set ⟨b, 4, none⟩ u4 fun _ => hB).set ⟨b, 5, none⟩ u5 fun _ => hB).set ⟨b, 6, none⟩ u6 fun _ => hB).below hw fun x hx h => by omega

set_option maxRecDepth 100000 in
set_option maxHeartbeats 1000000 in
theorem open_calls (vd vm : Value) (d l : List UInt8) (w : World) (hd : RB w vd d) (hm : RB w vm l) :
    Calls Try.prog 41 #[vd, vm] w fun e w' => e = .returned (openedV (opened d l)) ∧ Below w.heap.size w w' := by
  obtain ⟨am, cm, rfl, hml, hmm⟩ := hm.form
  obtain ⟨ad, cd, rfl, hdl2, hdm⟩ := hd.form
  go_enter Try.func41, Try.ntmps41
  have hcf : ∀ (args : Array Value) (w : World), (callFunc 71 args).run Try.prog w = .ok (.enter 71 args) w := fun args w => by
    first | rfl | kernel_rfl
  have hlt1 : 0 < l.length → ∀ b o n c, (.slice am l.length cm : Value) = .slice (some ⟨b, o, none⟩) n c → b < w.heap.size := fun h => RV.lt hm (by simpa using h)
  have hlt2 : 0 < d.length → ∀ b o n c, (.slice ad d.length cd : Value) = .slice (some ⟨b, o, none⟩) n c → b < w.heap.size := fun h => RV.lt hd (by simpa using h)
  by_cases hl : l.length = 64
  rotate_left
  · have hl' : ¬ (l.length : Int) = 64 := by omega
    go_wp2_with fail
    have hz : opened d l = none := if_neg fun h => hl h.1
    rw [hz]
    refine bodyPost_ret (res_ct rfl rfl (heap_is (by simp)) Try.underlying98 rfl (by kernel_rfl)) rfl ⟨rfl, ?_⟩
    exact (((Below.refl w.heap.size w).alloc (Nat.le_refl _) _).alloc (by simp) _).alloc (by simp; omega) _
  · have HL := Lib.hid hl
    have hl' : (l.length : Int) = 64 := by omega
    have H1 := Lib.hid (hlt1 (by omega))
    clear hlt1 hl
    go_wp2_with fail
    obtain ⟨w5, hw5⟩ : ∃ w5, w5 = ((((w.alloc (.cells #[.slice ad d.length cd] 23)).alloc (.cells #[.slice am l.length cm] 23)).alloc (.cells #[.int .u8 0, .int .u32 0, .int .u32 0, .int .u16 0, .int .u16 0, .int .u32 0, .int .u32 0] 98)).alloc (.cells #[.int .u8 0, .int .u32 0, .int .u32 0, .int .u16 0, .int .u16 0, .int .u32 0, .int .u32 0] 98)).alloc (.cells #[.bool false] 4) := ⟨_, rfl⟩
    have hb5 : Below w.heap.size w w5 := by rw [hw5]; exact (((((Below.refl w.heap.size w).alloc (Nat.le_refl _) _).alloc (by simp) _).alloc (by simp; omega) _).alloc (by simp; omega) _).alloc (by simp; omega) _
    have g0 : w5.heap[w.heap.size]? = some (.cells #[.slice ad d.length cd] 23 (0, 0)) := by rw [hw5]; exact heap_old _ (heap_old _ (heap_old _ (heap_old _ (heap_is rfl))))
    have g1 : w5.heap[w.heap.size + 1]? = some (.cells #[.slice am l.length cm] 23 (0, 0)) := by rw [hw5]; exact heap_old _ (heap_old _ (heap_old _ (heap_is (by simp))))
    have g2 : w5.heap[w.heap.size + 1 + 1]? = some (.cells #[.int .u8 0, .int .u32 0, .int .u32 0, .int .u16 0, .int .u16 0, .int .u32 0, .int .u32 0] 98 (0, 0)) := by rw [hw5]; exact heap_old _ (heap_old _ (heap_is (by simp)))
    have g3 : w5.heap[w.heap.size + 1 + 1 + 1]? = some (.cells #[.int .u8 0, .int .u32 0, .int .u32 0, .int .u16 0, .int .u16 0, .int .u32 0, .int .u32 0] 98 (0, 0)) := by rw [hw5]; exact heap_old _ (heap_is (by simp))
    have g4 : w5.heap[w.heap.size + 1 + 1 + 1 + 1]? = some (.cells #[.bool false] 4 (0, 0)) := by rw [hw5]; exact heap_is (by simp)
    have hs5 : w5.heap.size = w.heap.size + 5 := by rw [hw5]; simp
    rw [← hw5]
    clear hw5
    have hm5 := hm.below hb5
    have hd5 := hd.below hb5
    refine (read_calls 71 _ _ l w5 (fun b => b = w.heap.size + 1 + 1 + 1 ∨ b = w.heap.size + 1 + 1 + 1 + 1)
      (fun b w' => b = true ∧ w'.heap[w.heap.size + 1 + 1 + 1]? = some (.cells (hdrOf l).cells 98 (0, 0)) ∧ w'.heap[w.heap.size + 1 + 1 + 1 + 1]? = some (.cells #[.bool (wellLaid l d)] 4 (0, 0)))
      hm5 (by omega) hcf ?_).mono ?_
    · intro w6 r hb6 hr hRd _
      refine (open1_calls r _ _ _ _ _ _ l d w6 false hRd HL.out (hd5.below hb6) (heap_keep hb6 g3) (heap_keep hb6 g1) (heap_keep hb6 g0) (heap_keep hb6 g4) (by omega) (fun b o n c e => by have := H1.out b o n c e; omega) (fun hp b o n c e => by have := hlt2 hp b o n c e; omega)).mono ?_
      rintro e w7 ⟨rfl, h1, h2, h3⟩
      exact ⟨true, rfl, ⟨rfl, h1, h2⟩, h3⟩
    rintro e w8 ⟨b, rfl, w7, ⟨rfl, h1, h2⟩, h3, h4⟩
    have q3 := h3.at h1 (by show ¬ _ = w5.heap.size; omega)
    have q4 := h3.at h2 (by show ¬ _ = w5.heap.size; omega)
    have q2 := h3.at (h4.at g2 (by show ¬ (_ ∨ _); omega)) (by show ¬ _ = w5.heap.size; omega)
    have hO := h4.trans h3 (fun b hb e => by omega)
    have hbz := hb5.trans (hO.below (B := w.heap.size) (by omega) fun b hb h => by rcases h with h | h <;> omega)
    clear h1 h2 h3 h4 g0 g1 g2 g3 g4 hO hm5 hd5 hb5 hcf hlt2
    obtain ⟨wl, hwl⟩ : ∃ b, b = wellLaid l d := ⟨_, rfl⟩
    obtain ⟨k, hk⟩ : ∃ k, k = leAt l 2 1 := ⟨_, rfl⟩
    have hkc : (hdrOf l).cells = #[.int .u8 (k : Int), .int .u32 (leAt l 4 4 : Nat), .int .u32 (leAt l 8 4 : Nat), .int .u16 (leAt l 12 2 : Nat), .int .u16 (leAt l 14 2 : Nat), .int .u32 (leAt l 16 4 : Nat), .int .u32 (leAt l 20 4 : Nat)] := by rw [hk]; rfl
    rw [hkc] at q3
    rw [← hwl] at q4
    have HWL := Lib.hid hwl
    have HK := Lib.hid hk
    have HKC := Lib.hid hkc
    clear hwl hk hkc
    have k0 := cells_at q4 0 _ rfl
    have k1 := cells_at q3 0 _ rfl
    have c0 := cells_at q2 0 _ rfl
    have f0 := froz_at q2 0
    have c1 := cells_at q2 1 _ rfl
    have f1 := froz_at q2 1
    have c2 := cells_at q2 2 _ rfl
    have f2 := froz_at q2 2
    have c3 := cells_at q2 3 _ rfl
    have f3 := froz_at q2 3
    have c4 := cells_at q2 4 _ rfl
    have f4 := froz_at q2 4
    have c5 := cells_at q2 5 _ rfl
    have f5 := froz_at q2 5
    have c6 := cells_at q2 6 _ rfl
    have f6 := froz_at q2 6
    cases wl with
    | false =>
      go_wp2_with fail
      have hz : opened d l = none := if_neg fun h => by rw [← HWL.out] at h; exact absurd h.2.1 (by simp)
      rw [hz]
      refine bodyPost_ret (res_ct rfl rfl (set7 _ _ _ _ _ _ _ q2) Try.underlying98 rfl (by kernel_rfl)) rfl ⟨rfl, ?_⟩
      exact put7 hbz _ _ _ _ _ _ _ _ (by omega) (Nat.le_refl _)
    | true =>
      have z1 := cells_at q3 1 _ rfl
      have z2 := cells_at q3 2 _ rfl
      have z3 := cells_at q3 3 _ rfl
      have z4 := cells_at q3 4 _ rfl
      have z5 := cells_at q3 5 _ rfl
      have z6 := cells_at q3 6 _ rfl
      by_cases h1 : k < 1
      · go_wp2_with fail
        have hz : opened d l = none := if_neg fun h => by rw [← HK.out] at h; omega
        rw [hz]
        refine bodyPost_ret (res_ct rfl rfl (set7 _ _ _ _ _ _ _ q2) Try.underlying98 rfl (by kernel_rfl)) rfl ⟨rfl, ?_⟩
        exact put7 hbz _ _ _ _ _ _ _ _ (by omega) (Nat.le_refl _)
      by_cases h2 : 6 < k
      · go_wp2_with fail
        have hz : opened d l = none := if_neg fun h => by rw [← HK.out] at h; omega
        rw [hz]
        refine bodyPost_ret (res_ct rfl rfl (set7 _ _ _ _ _ _ _ q2) Try.underlying98 rfl (by kernel_rfl)) rfl ⟨rfl, ?_⟩
        exact put7 hbz _ _ _ _ _ _ _ _ (by omega) (Nat.le_refl _)
      go_wp2_with fail
      have hz : opened d l = some (hdrOf l) := if_pos ⟨HL.out, HWL.out.symm, by rw [← HK.out]; omega, by rw [← HK.out]; omega⟩
      rw [hz]
      refine bodyPost_ret (res_ct rfl rfl (set7 _ _ _ _ _ _ _ q2) Try.underlying98 rfl (by kernel_rfl)) rfl ⟨?_, ?_⟩
      · exact congrArg (fun c => Ending.returned (.tuple #[.agg c, .bool true])) HKC.out.symm
      · exact put7 hbz _ _ _ _ _ _ _ _ (by omega) (Nat.le_refl _)
end Go.Proofs.Ytogejjbclimjjaa
