/- record.Open: what its closure reads. -/
--only r2
import Derived.Test.YtogejjbclimjjaaSeal
namespace Go.Proofs.Ytogejjbclimjjaa
set_option linter.unusedVariables false
set_option linter.unusedSimpArgs false
open Go.RowKit

/-- bytes of a slice that does not lie in what was turned -/
theorem RV.away {S : Nat → Prop} {w w' : World} {v : Value} {xs : List Value} (h : RV w v xs) (ha : 0 < xs.length → ∀ b o n c, v = .slice (some ⟨b, o, none⟩) n c → ¬ S b) (hO : Only S w w') : RV w' v xs := by
  obtain ⟨a, cap, rfl, h1, h2, h0, h3⟩ := h
  refine ⟨a, cap, rfl, h1, h2, h0, h3.imp_right ?_⟩
  rintro ⟨b, o, rfl, hc⟩
  exact ⟨b, o, rfl, fun i hi => hO.cell (hc i hi) (ha (by omega) b o _ _ rfl)⟩
def leAt (l : List UInt8) (k n : Nat) : Nat := leNum ((l.drop k).take n)
def hdrOf (l : List UInt8) : Hdr := ⟨leAt l 2 1, leAt l 4 4, leAt l 8 4, leAt l 12 2, leAt l 14 2, leAt l 16 4, leAt l 20 4⟩
theorem rU8_at (r k : Nat) (v : Value) (l : List UInt8) (n : Nat) (hn : n = leAt l k 1) (hl : k + 1 ≤ l.length) (w : World) (h : Rd w r v l k) :
    Calls Try.prog 45 #[ptrV r] w fun e w' => e = .returned (.int .u8 n) ∧ Rd w' r v l (k + 1) ∧ Only (fun b => b = r) w w' := by subst hn; exact rU8_ok r k v l w h hl
theorem rU16_at (r k : Nat) (v : Value) (l : List UInt8) (n : Nat) (hn : n = leAt l k 2) (hl : k + 2 ≤ l.length) (w : World) (h : Rd w r v l k) :
    Calls Try.prog 46 #[ptrV r] w fun e w' => e = .returned (.int .u16 n) ∧ Rd w' r v l (k + 2) ∧ Only (fun b => b = r) w w' := by subst hn; exact rU16_ok r k v l w h hl
theorem rU32_at (r k : Nat) (v : Value) (l : List UInt8) (n : Nat) (hn : n = leAt l k 4) (hl : k + 4 ≤ l.length) (w : World) (h : Rd w r v l k) :
    Calls Try.prog 44 #[ptrV r] w fun e w' => e = .returned (.int .u32 n) ∧ Rd w' r v l (k + 4) ∧ Only (fun b => b = r) w w' := by subst hn; exact rU32_ok r k v l w h hl

def sum3 (l d : List UInt8) : Nat := sumOf3 (l.take 24) d (l.drop 32)
/-- whether a header's words stand as they should -/
def wellLaid (l d : List UInt8) : Bool := decide (leAt l 0 2 = 22356) && (decide (leAt l 3 1 = 0) && (decide (leAt l 28 4 = 0) && decide (leAt l 24 4 = sum3 l d)))

set_option maxRecDepth 100000 in
set_option maxHeartbeats 1000000 in
theorem open1_calls (r bh bb bd bo : Nat) (v vd : Value) (l d : List UInt8) (w : World) (b0 : Bool) (hR : Rd w r v l 0) (hl : l.length = 64) (hd : RB w vd d)
    (hH : w.heap[bh]? = some (.cells #[.int .u8 0, .int .u32 0, .int .u32 0, .int .u16 0, .int .u16 0, .int .u32 0, .int .u32 0] 98 (0, 0)))
    (hB : w.heap[bb]? = some (.cells #[v] 23 (0, 0))) (hD : w.heap[bd]? = some (.cells #[vd] 23 (0, 0))) (hK : w.heap[bo]? = some (.cells #[.bool b0] 4 (0, 0)))
    (hne : bh ≠ r ∧ bb ≠ r ∧ bd ≠ r ∧ bo ≠ r ∧ bb ≠ bh ∧ bd ≠ bh ∧ bo ≠ bh ∧ bb ≠ bo ∧ bd ≠ bo)
    (hav : ∀ b o n c, v = .slice (some ⟨b, o, none⟩) n c → b ≠ r ∧ b ≠ bh ∧ b ≠ bo) (hdv : 0 < d.length → ∀ b o n c, vd = .slice (some ⟨b, o, none⟩) n c → b ≠ r ∧ b ≠ bh ∧ b ≠ bo) :
    Calls Try.prog 71 #[ptrV r, ptrV bh, ptrV bb, ptrV bd, ptrV bo] w fun e w' => e = .returned (.tuple #[]) ∧
      w'.heap[bh]? = some (.cells (hdrOf l).cells 98 (0, 0)) ∧ w'.heap[bo]? = some (.cells #[.bool (wellLaid l d)] 4 (0, 0)) ∧ Only (fun b => b = r ∨ b = bh ∨ b = bo) w w' := by
  obtain ⟨n0, e0⟩ : ∃ n, n = leAt l 0 2 := ⟨_, rfl⟩
  obtain ⟨n1, e1⟩ : ∃ n, n = leAt l 2 1 := ⟨_, rfl⟩
  obtain ⟨n2, e2⟩ : ∃ n, n = leAt l 3 1 := ⟨_, rfl⟩
  obtain ⟨n3, e3⟩ : ∃ n, n = leAt l 4 4 := ⟨_, rfl⟩
  obtain ⟨n4, e4⟩ : ∃ n, n = leAt l 8 4 := ⟨_, rfl⟩
  obtain ⟨n5, e5⟩ : ∃ n, n = leAt l 12 2 := ⟨_, rfl⟩
  obtain ⟨n6, e6⟩ : ∃ n, n = leAt l 14 2 := ⟨_, rfl⟩
  obtain ⟨n7, e7⟩ : ∃ n, n = leAt l 16 4 := ⟨_, rfl⟩
  obtain ⟨n8, e8⟩ : ∃ n, n = leAt l 20 4 := ⟨_, rfl⟩
  obtain ⟨n9, e9⟩ : ∃ n, n = leAt l 24 4 := ⟨_, rfl⟩
  obtain ⟨n10, e10⟩ : ∃ n, n = leAt l 28 4 := ⟨_, rfl⟩
  have C0 := rU16_at r 0 v l n0 e0 (by omega)
  have C1 := rU8_at r 2 v l n1 e1 (by omega)
  have C2 := rU8_at r 3 v l n2 e2 (by omega)
  have C3 := rU32_at r 4 v l n3 e3 (by omega)
  have C4 := rU32_at r 8 v l n4 e4 (by omega)
  have C5 := rU16_at r 12 v l n5 e5 (by omega)
  have C6 := rU16_at r 14 v l n6 e6 (by omega)
  have C7 := rU32_at r 16 v l n7 e7 (by omega)
  have C8 := rU32_at r 20 v l n8 e8 (by omega)
  have C9 := rU32_at r 24 v l n9 e9 (by omega)
  have C10 := rU32_at r 28 v l n10 e10 (by omega)
  have hq : wellLaid l d = (decide (n0 = 22356) && (decide (n2 = 0) && (decide (n10 = 0) && decide (n9 = sum3 l d)))) := by rw [e0, e2, e10, e9]; rfl
  have hh : (hdrOf l).cells = #[.int .u8 n1, .int .u32 n3, .int .u32 n4, .int .u16 n5, .int .u16 n6, .int .u32 n7, .int .u32 n8] := by rw [e1, e3, e4, e5, e6, e7, e8]; rfl
  obtain ⟨sn, hsn⟩ : ∃ sn, sn = sum3 l d := ⟨_, rfl⟩
  obtain ⟨i, hi, hz0, hz1, hz2⟩ := info_parts infoU8
  obtain ⟨av, cv, rfl, hlv, hmv⟩ := hR.rb.form
  obtain ⟨ad, cd, rfl, hld, hmd⟩ := hd.form
  have hrun1 : ∀ w, (Instr.sliceAt 23 (.slice av l.length cv) none (some (.int .i64 24)) none).run Try.prog w = .ok (cutV av cv 0 24) w := fun w => run_cut_to Try.underlying23 hi hz1 av l.length cv 24 (by omega) w
  have hrun2 : ∀ w, (Instr.sliceAt 23 (.slice av l.length cv) (some (.int .i64 32)) none none).run Try.prog w = .ok (cutV av cv 32 l.length) w := fun w => run_cut_from Try.underlying23 hi hz1 av l.length cv 32 (by omega) w
  have HL := Lib.hid hl
  clear hl
  obtain ⟨ok, hok⟩ : ∃ b : Bool, b = (decide (n0 = 22356) && (decide (n2 = 0) && (decide (n10 = 0) && decide (n9 = sn)))) := ⟨_, rfl⟩
  rw [hq, hh, ← hsn, ← hok]
  have HOK := Lib.hid hok
  clear hok
  have HSN := Lib.hid hsn
  clear hsn hq hh e0 e1 e2 e3 e4 e5 e6 e7 e8 e9 e10
  obtain ⟨x1, x2, x3, x4, x5, x6, x7, x8, x9⟩ := hne
  have hO : Only (fun b => b = r ∨ b = bh) w w := Only.refl _ _
  (have f0 := froz_at hH 0; have f1 := froz_at hH 1; have f2 := froz_at hH 2; have f3 := froz_at hH 3; have f4 := froz_at hH 4; have f5 := froz_at hH 5; have f6 := froz_at hH 6; have c0 := cells_at hH 0 _ rfl; have c1 := cells_at hH 1 _ rfl; have c2 := cells_at hH 2 _ rfl; have c3 := cells_at hH 3 _ rfl; have c4 := cells_at hH 4 _ rfl; have c5 := cells_at hH 5 _ rfl; have c6 := cells_at hH 6 _ rfl)
  have HAV := Lib.hid hdv
  clear hdv
  go_enter Try.func71, Try.ntmps71
  (go_wp2_with ((refine wpList_set hH ?_; clear f0 f1 f2 f3 f4 f5 f6 c0 c1 c2 c3 c4 c5 c6; intro wn hHn hsn hOn; replace hO := hO.trans hOn (fun b hb h => .inr h); have hRn : Rd wn r _ l _ := ⟨hOn.at hR.cell (by show ¬ r = bh; omega), RV.away hR.rb (fun _ b o n c e => (hav b o n c e).2.1) hOn, hR.le⟩; clear hR hH hOn hsn; have hR := hRn; have hH := hHn; clear hRn hHn; (try simp only [List.setIfInBounds_toArray, List.set_cons_zero, List.set_cons_succ] at hH); (have f0 := froz_at hH 0; have f1 := froz_at hH 1; have f2 := froz_at hH 2; have f3 := froz_at hH 3; have f4 := froz_at hH 4; have f5 := froz_at hH 5; have f6 := froz_at hH 6; have c0 := cells_at hH 0 _ rfl; have c1 := cells_at hH 1 _ rfl; have c2 := cells_at hH 2 _ rfl; have c3 := cells_at hH 3 _ rfl; have c4 := cells_at hH 4 _ rfl; have c5 := cells_at hH 5 _ rfl; have c6 := cells_at hH 6 _ rfl))); refine (C0 _ hR).mono ?_; clear f0 f1 f2 f3 f4 f5 f6 c0 c1 c2 c3 c4 c5 c6; rintro e wn ⟨rfl, hRn, hOn⟩; replace hH := hOn.at hH (by show ¬ bh = r; omega); replace hO := hO.trans hOn (fun b hb h => .inl h); clear hR hOn; have hR := hRn; clear hRn; (have f0 := froz_at hH 0; have f1 := froz_at hH 1; have f2 := froz_at hH 2; have f3 := froz_at hH 3; have f4 := froz_at hH 4; have f5 := froz_at hH 5; have f6 := froz_at hH 6; have c0 := cells_at hH 0 _ rfl; have c1 := cells_at hH 1 _ rfl; have c2 := cells_at hH 2 _ rfl; have c3 := cells_at hH 3 _ rfl; have c4 := cells_at hH 4 _ rfl; have c5 := cells_at hH 5 _ rfl; have c6 := cells_at hH 6 _ rfl))
  (go_wp2_with ((refine wpList_set hH ?_; clear f0 f1 f2 f3 f4 f5 f6 c0 c1 c2 c3 c4 c5 c6; intro wn hHn hsn hOn; replace hO := hO.trans hOn (fun b hb h => .inr h); have hRn : Rd wn r _ l _ := ⟨hOn.at hR.cell (by show ¬ r = bh; omega), RV.away hR.rb (fun _ b o n c e => (hav b o n c e).2.1) hOn, hR.le⟩; clear hR hH hOn hsn; have hR := hRn; have hH := hHn; clear hRn hHn; (try simp only [List.setIfInBounds_toArray, List.set_cons_zero, List.set_cons_succ] at hH); (have f0 := froz_at hH 0; have f1 := froz_at hH 1; have f2 := froz_at hH 2; have f3 := froz_at hH 3; have f4 := froz_at hH 4; have f5 := froz_at hH 5; have f6 := froz_at hH 6; have c0 := cells_at hH 0 _ rfl; have c1 := cells_at hH 1 _ rfl; have c2 := cells_at hH 2 _ rfl; have c3 := cells_at hH 3 _ rfl; have c4 := cells_at hH 4 _ rfl; have c5 := cells_at hH 5 _ rfl; have c6 := cells_at hH 6 _ rfl))); refine (C1 _ hR).mono ?_; clear f0 f1 f2 f3 f4 f5 f6 c0 c1 c2 c3 c4 c5 c6; rintro e wn ⟨rfl, hRn, hOn⟩; replace hH := hOn.at hH (by show ¬ bh = r; omega); replace hO := hO.trans hOn (fun b hb h => .inl h); clear hR hOn; have hR := hRn; clear hRn; (have f0 := froz_at hH 0; have f1 := froz_at hH 1; have f2 := froz_at hH 2; have f3 := froz_at hH 3; have f4 := froz_at hH 4; have f5 := froz_at hH 5; have f6 := froz_at hH 6; have c0 := cells_at hH 0 _ rfl; have c1 := cells_at hH 1 _ rfl; have c2 := cells_at hH 2 _ rfl; have c3 := cells_at hH 3 _ rfl; have c4 := cells_at hH 4 _ rfl; have c5 := cells_at hH 5 _ rfl; have c6 := cells_at hH 6 _ rfl))
  (go_wp2_with ((refine wpList_set hH ?_; clear f0 f1 f2 f3 f4 f5 f6 c0 c1 c2 c3 c4 c5 c6; intro wn hHn hsn hOn; replace hO := hO.trans hOn (fun b hb h => .inr h); have hRn : Rd wn r _ l _ := ⟨hOn.at hR.cell (by show ¬ r = bh; omega), RV.away hR.rb (fun _ b o n c e => (hav b o n c e).2.1) hOn, hR.le⟩; clear hR hH hOn hsn; have hR := hRn; have hH := hHn; clear hRn hHn; (try simp only [List.setIfInBounds_toArray, List.set_cons_zero, List.set_cons_succ] at hH); (have f0 := froz_at hH 0; have f1 := froz_at hH 1; have f2 := froz_at hH 2; have f3 := froz_at hH 3; have f4 := froz_at hH 4; have f5 := froz_at hH 5; have f6 := froz_at hH 6; have c0 := cells_at hH 0 _ rfl; have c1 := cells_at hH 1 _ rfl; have c2 := cells_at hH 2 _ rfl; have c3 := cells_at hH 3 _ rfl; have c4 := cells_at hH 4 _ rfl; have c5 := cells_at hH 5 _ rfl; have c6 := cells_at hH 6 _ rfl))); refine (C2 _ hR).mono ?_; clear f0 f1 f2 f3 f4 f5 f6 c0 c1 c2 c3 c4 c5 c6; rintro e wn ⟨rfl, hRn, hOn⟩; replace hH := hOn.at hH (by show ¬ bh = r; omega); replace hO := hO.trans hOn (fun b hb h => .inl h); clear hR hOn; have hR := hRn; clear hRn; (have f0 := froz_at hH 0; have f1 := froz_at hH 1; have f2 := froz_at hH 2; have f3 := froz_at hH 3; have f4 := froz_at hH 4; have f5 := froz_at hH 5; have f6 := froz_at hH 6; have c0 := cells_at hH 0 _ rfl; have c1 := cells_at hH 1 _ rfl; have c2 := cells_at hH 2 _ rfl; have c3 := cells_at hH 3 _ rfl; have c4 := cells_at hH 4 _ rfl; have c5 := cells_at hH 5 _ rfl; have c6 := cells_at hH 6 _ rfl))
  (go_wp2_with ((refine wpList_set hH ?_; clear f0 f1 f2 f3 f4 f5 f6 c0 c1 c2 c3 c4 c5 c6; intro wn hHn hsn hOn; replace hO := hO.trans hOn (fun b hb h => .inr h); have hRn : Rd wn r _ l _ := ⟨hOn.at hR.cell (by show ¬ r = bh; omega), RV.away hR.rb (fun _ b o n c e => (hav b o n c e).2.1) hOn, hR.le⟩; clear hR hH hOn hsn; have hR := hRn; have hH := hHn; clear hRn hHn; (try simp only [List.setIfInBounds_toArray, List.set_cons_zero, List.set_cons_succ] at hH); (have f0 := froz_at hH 0; have f1 := froz_at hH 1; have f2 := froz_at hH 2; have f3 := froz_at hH 3; have f4 := froz_at hH 4; have f5 := froz_at hH 5; have f6 := froz_at hH 6; have c0 := cells_at hH 0 _ rfl; have c1 := cells_at hH 1 _ rfl; have c2 := cells_at hH 2 _ rfl; have c3 := cells_at hH 3 _ rfl; have c4 := cells_at hH 4 _ rfl; have c5 := cells_at hH 5 _ rfl; have c6 := cells_at hH 6 _ rfl))); refine (C3 _ hR).mono ?_; clear f0 f1 f2 f3 f4 f5 f6 c0 c1 c2 c3 c4 c5 c6; rintro e wn ⟨rfl, hRn, hOn⟩; replace hH := hOn.at hH (by show ¬ bh = r; omega); replace hO := hO.trans hOn (fun b hb h => .inl h); clear hR hOn; have hR := hRn; clear hRn; (have f0 := froz_at hH 0; have f1 := froz_at hH 1; have f2 := froz_at hH 2; have f3 := froz_at hH 3; have f4 := froz_at hH 4; have f5 := froz_at hH 5; have f6 := froz_at hH 6; have c0 := cells_at hH 0 _ rfl; have c1 := cells_at hH 1 _ rfl; have c2 := cells_at hH 2 _ rfl; have c3 := cells_at hH 3 _ rfl; have c4 := cells_at hH 4 _ rfl; have c5 := cells_at hH 5 _ rfl; have c6 := cells_at hH 6 _ rfl))
  (go_wp2_with ((refine wpList_set hH ?_; clear f0 f1 f2 f3 f4 f5 f6 c0 c1 c2 c3 c4 c5 c6; intro wn hHn hsn hOn; replace hO := hO.trans hOn (fun b hb h => .inr h); have hRn : Rd wn r _ l _ := ⟨hOn.at hR.cell (by show ¬ r = bh; omega), RV.away hR.rb (fun _ b o n c e => (hav b o n c e).2.1) hOn, hR.le⟩; clear hR hH hOn hsn; have hR := hRn; have hH := hHn; clear hRn hHn; (try simp only [List.setIfInBounds_toArray, List.set_cons_zero, List.set_cons_succ] at hH); (have f0 := froz_at hH 0; have f1 := froz_at hH 1; have f2 := froz_at hH 2; have f3 := froz_at hH 3; have f4 := froz_at hH 4; have f5 := froz_at hH 5; have f6 := froz_at hH 6; have c0 := cells_at hH 0 _ rfl; have c1 := cells_at hH 1 _ rfl; have c2 := cells_at hH 2 _ rfl; have c3 := cells_at hH 3 _ rfl; have c4 := cells_at hH 4 _ rfl; have c5 := cells_at hH 5 _ rfl; have c6 := cells_at hH 6 _ rfl))); refine (C4 _ hR).mono ?_; clear f0 f1 f2 f3 f4 f5 f6 c0 c1 c2 c3 c4 c5 c6; rintro e wn ⟨rfl, hRn, hOn⟩; replace hH := hOn.at hH (by show ¬ bh = r; omega); replace hO := hO.trans hOn (fun b hb h => .inl h); clear hR hOn; have hR := hRn; clear hRn; (have f0 := froz_at hH 0; have f1 := froz_at hH 1; have f2 := froz_at hH 2; have f3 := froz_at hH 3; have f4 := froz_at hH 4; have f5 := froz_at hH 5; have f6 := froz_at hH 6; have c0 := cells_at hH 0 _ rfl; have c1 := cells_at hH 1 _ rfl; have c2 := cells_at hH 2 _ rfl; have c3 := cells_at hH 3 _ rfl; have c4 := cells_at hH 4 _ rfl; have c5 := cells_at hH 5 _ rfl; have c6 := cells_at hH 6 _ rfl))
  (go_wp2_with ((refine wpList_set hH ?_; clear f0 f1 f2 f3 f4 f5 f6 c0 c1 c2 c3 c4 c5 c6; intro wn hHn hsn hOn; replace hO := hO.trans hOn (fun b hb h => .inr h); have hRn : Rd wn r _ l _ := ⟨hOn.at hR.cell (by show ¬ r = bh; omega), RV.away hR.rb (fun _ b o n c e => (hav b o n c e).2.1) hOn, hR.le⟩; clear hR hH hOn hsn; have hR := hRn; have hH := hHn; clear hRn hHn; (try simp only [List.setIfInBounds_toArray, List.set_cons_zero, List.set_cons_succ] at hH); (have f0 := froz_at hH 0; have f1 := froz_at hH 1; have f2 := froz_at hH 2; have f3 := froz_at hH 3; have f4 := froz_at hH 4; have f5 := froz_at hH 5; have f6 := froz_at hH 6; have c0 := cells_at hH 0 _ rfl; have c1 := cells_at hH 1 _ rfl; have c2 := cells_at hH 2 _ rfl; have c3 := cells_at hH 3 _ rfl; have c4 := cells_at hH 4 _ rfl; have c5 := cells_at hH 5 _ rfl; have c6 := cells_at hH 6 _ rfl))); refine (C5 _ hR).mono ?_; clear f0 f1 f2 f3 f4 f5 f6 c0 c1 c2 c3 c4 c5 c6; rintro e wn ⟨rfl, hRn, hOn⟩; replace hH := hOn.at hH (by show ¬ bh = r; omega); replace hO := hO.trans hOn (fun b hb h => .inl h); clear hR hOn; have hR := hRn; clear hRn; (have f0 := froz_at hH 0; have f1 := froz_at hH 1; have f2 := froz_at hH 2; have f3 := froz_at hH 3; have f4 := froz_at hH 4; have f5 := froz_at hH 5; have f6 := froz_at hH 6; have c0 := cells_at hH 0 _ rfl; have c1 := cells_at hH 1 _ rfl; have c2 := cells_at hH 2 _ rfl; have c3 := cells_at hH 3 _ rfl; have c4 := cells_at hH 4 _ rfl; have c5 := cells_at hH 5 _ rfl; have c6 := cells_at hH 6 _ rfl))
  (go_wp2_with ((refine wpList_set hH ?_; clear f0 f1 f2 f3 f4 f5 f6 c0 c1 c2 c3 c4 c5 c6; intro wn hHn hsn hOn; replace hO := hO.trans hOn (fun b hb h => .inr h); have hRn : Rd wn r _ l _ := ⟨hOn.at hR.cell (by show ¬ r = bh; omega), RV.away hR.rb (fun _ b o n c e => (hav b o n c e).2.1) hOn, hR.le⟩; clear hR hH hOn hsn; have hR := hRn; have hH := hHn; clear hRn hHn; (try simp only [List.setIfInBounds_toArray, List.set_cons_zero, List.set_cons_succ] at hH); (have f0 := froz_at hH 0; have f1 := froz_at hH 1; have f2 := froz_at hH 2; have f3 := froz_at hH 3; have f4 := froz_at hH 4; have f5 := froz_at hH 5; have f6 := froz_at hH 6; have c0 := cells_at hH 0 _ rfl; have c1 := cells_at hH 1 _ rfl; have c2 := cells_at hH 2 _ rfl; have c3 := cells_at hH 3 _ rfl; have c4 := cells_at hH 4 _ rfl; have c5 := cells_at hH 5 _ rfl; have c6 := cells_at hH 6 _ rfl))); refine (C6 _ hR).mono ?_; clear f0 f1 f2 f3 f4 f5 f6 c0 c1 c2 c3 c4 c5 c6; rintro e wn ⟨rfl, hRn, hOn⟩; replace hH := hOn.at hH (by show ¬ bh = r; omega); replace hO := hO.trans hOn (fun b hb h => .inl h); clear hR hOn; have hR := hRn; clear hRn; (have f0 := froz_at hH 0; have f1 := froz_at hH 1; have f2 := froz_at hH 2; have f3 := froz_at hH 3; have f4 := froz_at hH 4; have f5 := froz_at hH 5; have f6 := froz_at hH 6; have c0 := cells_at hH 0 _ rfl; have c1 := cells_at hH 1 _ rfl; have c2 := cells_at hH 2 _ rfl; have c3 := cells_at hH 3 _ rfl; have c4 := cells_at hH 4 _ rfl; have c5 := cells_at hH 5 _ rfl; have c6 := cells_at hH 6 _ rfl))
  (go_wp2_with ((refine wpList_set hH ?_; clear f0 f1 f2 f3 f4 f5 f6 c0 c1 c2 c3 c4 c5 c6; intro wn hHn hsn hOn; replace hO := hO.trans hOn (fun b hb h => .inr h); have hRn : Rd wn r _ l _ := ⟨hOn.at hR.cell (by show ¬ r = bh; omega), RV.away hR.rb (fun _ b o n c e => (hav b o n c e).2.1) hOn, hR.le⟩; clear hR hH hOn hsn; have hR := hRn; have hH := hHn; clear hRn hHn; (try simp only [List.setIfInBounds_toArray, List.set_cons_zero, List.set_cons_succ] at hH); (have f0 := froz_at hH 0; have f1 := froz_at hH 1; have f2 := froz_at hH 2; have f3 := froz_at hH 3; have f4 := froz_at hH 4; have f5 := froz_at hH 5; have f6 := froz_at hH 6; have c0 := cells_at hH 0 _ rfl; have c1 := cells_at hH 1 _ rfl; have c2 := cells_at hH 2 _ rfl; have c3 := cells_at hH 3 _ rfl; have c4 := cells_at hH 4 _ rfl; have c5 := cells_at hH 5 _ rfl; have c6 := cells_at hH 6 _ rfl))); refine (C7 _ hR).mono ?_; clear f0 f1 f2 f3 f4 f5 f6 c0 c1 c2 c3 c4 c5 c6; rintro e wn ⟨rfl, hRn, hOn⟩; replace hH := hOn.at hH (by show ¬ bh = r; omega); replace hO := hO.trans hOn (fun b hb h => .inl h); clear hR hOn; have hR := hRn; clear hRn; (have f0 := froz_at hH 0; have f1 := froz_at hH 1; have f2 := froz_at hH 2; have f3 := froz_at hH 3; have f4 := froz_at hH 4; have f5 := froz_at hH 5; have f6 := froz_at hH 6; have c0 := cells_at hH 0 _ rfl; have c1 := cells_at hH 1 _ rfl; have c2 := cells_at hH 2 _ rfl; have c3 := cells_at hH 3 _ rfl; have c4 := cells_at hH 4 _ rfl; have c5 := cells_at hH 5 _ rfl; have c6 := cells_at hH 6 _ rfl))
  (go_wp2_with ((refine wpList_set hH ?_; clear f0 f1 f2 f3 f4 f5 f6 c0 c1 c2 c3 c4 c5 c6; intro wn hHn hsn hOn; replace hO := hO.trans hOn (fun b hb h => .inr h); have hRn : Rd wn r _ l _ := ⟨hOn.at hR.cell (by show ¬ r = bh; omega), RV.away hR.rb (fun _ b o n c e => (hav b o n c e).2.1) hOn, hR.le⟩; clear hR hH hOn hsn; have hR := hRn; have hH := hHn; clear hRn hHn; (try simp only [List.setIfInBounds_toArray, List.set_cons_zero, List.set_cons_succ] at hH); (have f0 := froz_at hH 0; have f1 := froz_at hH 1; have f2 := froz_at hH 2; have f3 := froz_at hH 3; have f4 := froz_at hH 4; have f5 := froz_at hH 5; have f6 := froz_at hH 6; have c0 := cells_at hH 0 _ rfl; have c1 := cells_at hH 1 _ rfl; have c2 := cells_at hH 2 _ rfl; have c3 := cells_at hH 3 _ rfl; have c4 := cells_at hH 4 _ rfl; have c5 := cells_at hH 5 _ rfl; have c6 := cells_at hH 6 _ rfl))); refine (C8 _ hR).mono ?_; clear f0 f1 f2 f3 f4 f5 f6 c0 c1 c2 c3 c4 c5 c6; rintro e wn ⟨rfl, hRn, hOn⟩; replace hH := hOn.at hH (by show ¬ bh = r; omega); replace hO := hO.trans hOn (fun b hb h => .inl h); clear hR hOn; have hR := hRn; clear hRn; (have f0 := froz_at hH 0; have f1 := froz_at hH 1; have f2 := froz_at hH 2; have f3 := froz_at hH 3; have f4 := froz_at hH 4; have f5 := froz_at hH 5; have f6 := froz_at hH 6; have c0 := cells_at hH 0 _ rfl; have c1 := cells_at hH 1 _ rfl; have c2 := cells_at hH 2 _ rfl; have c3 := cells_at hH 3 _ rfl; have c4 := cells_at hH 4 _ rfl; have c5 := cells_at hH 5 _ rfl; have c6 := cells_at hH 6 _ rfl))
  (go_wp2_with ((refine wpList_set hH ?_; clear f0 f1 f2 f3 f4 f5 f6 c0 c1 c2 c3 c4 c5 c6; intro wn hHn hsn hOn; replace hO := hO.trans hOn (fun b hb h => .inr h); have hRn : Rd wn r _ l _ := ⟨hOn.at hR.cell (by show ¬ r = bh; omega), RV.away hR.rb (fun _ b o n c e => (hav b o n c e).2.1) hOn, hR.le⟩; clear hR hH hOn hsn; have hR := hRn; have hH := hHn; clear hRn hHn; (try simp only [List.setIfInBounds_toArray, List.set_cons_zero, List.set_cons_succ] at hH); (have f0 := froz_at hH 0; have f1 := froz_at hH 1; have f2 := froz_at hH 2; have f3 := froz_at hH 3; have f4 := froz_at hH 4; have f5 := froz_at hH 5; have f6 := froz_at hH 6; have c0 := cells_at hH 0 _ rfl; have c1 := cells_at hH 1 _ rfl; have c2 := cells_at hH 2 _ rfl; have c3 := cells_at hH 3 _ rfl; have c4 := cells_at hH 4 _ rfl; have c5 := cells_at hH 5 _ rfl; have c6 := cells_at hH 6 _ rfl))); refine (C9 _ hR).mono ?_; clear f0 f1 f2 f3 f4 f5 f6 c0 c1 c2 c3 c4 c5 c6; rintro e wn ⟨rfl, hRn, hOn⟩; replace hH := hOn.at hH (by show ¬ bh = r; omega); replace hO := hO.trans hOn (fun b hb h => .inl h); clear hR hOn; have hR := hRn; clear hRn; (have f0 := froz_at hH 0; have f1 := froz_at hH 1; have f2 := froz_at hH 2; have f3 := froz_at hH 3; have f4 := froz_at hH 4; have f5 := froz_at hH 5; have f6 := froz_at hH 6; have c0 := cells_at hH 0 _ rfl; have c1 := cells_at hH 1 _ rfl; have c2 := cells_at hH 2 _ rfl; have c3 := cells_at hH 3 _ rfl; have c4 := cells_at hH 4 _ rfl; have c5 := cells_at hH 5 _ rfl; have c6 := cells_at hH 6 _ rfl))
  (go_wp2_with ((refine wpList_set hH ?_; clear f0 f1 f2 f3 f4 f5 f6 c0 c1 c2 c3 c4 c5 c6; intro wn hHn hsn hOn; replace hO := hO.trans hOn (fun b hb h => .inr h); have hRn : Rd wn r _ l _ := ⟨hOn.at hR.cell (by show ¬ r = bh; omega), RV.away hR.rb (fun _ b o n c e => (hav b o n c e).2.1) hOn, hR.le⟩; clear hR hH hOn hsn; have hR := hRn; have hH := hHn; clear hRn hHn; (try simp only [List.setIfInBounds_toArray, List.set_cons_zero, List.set_cons_succ] at hH); (have f0 := froz_at hH 0; have f1 := froz_at hH 1; have f2 := froz_at hH 2; have f3 := froz_at hH 3; have f4 := froz_at hH 4; have f5 := froz_at hH 5; have f6 := froz_at hH 6; have c0 := cells_at hH 0 _ rfl; have c1 := cells_at hH 1 _ rfl; have c2 := cells_at hH 2 _ rfl; have c3 := cells_at hH 3 _ rfl; have c4 := cells_at hH 4 _ rfl; have c5 := cells_at hH 5 _ rfl; have c6 := cells_at hH 6 _ rfl))); refine (C10 _ hR).mono ?_; clear f0 f1 f2 f3 f4 f5 f6 c0 c1 c2 c3 c4 c5 c6; rintro e wn ⟨rfl, hRn, hOn⟩; replace hH := hOn.at hH (by show ¬ bh = r; omega); replace hO := hO.trans hOn (fun b hb h => .inl h); clear hR hOn; have hR := hRn; clear hRn; (have f0 := froz_at hH 0; have f1 := froz_at hH 1; have f2 := froz_at hH 2; have f3 := froz_at hH 3; have f4 := froz_at hH 4; have f5 := froz_at hH 5; have f6 := froz_at hH 6; have c0 := cells_at hH 0 _ rfl; have c1 := cells_at hH 1 _ rfl; have c2 := cells_at hH 2 _ rfl; have c3 := cells_at hH 3 _ rfl; have c4 := cells_at hH 4 _ rfl; have c5 := cells_at hH 5 _ rfl; have c6 := cells_at hH 6 _ rfl))
  clear C0 C1 C2 C3 C4 C5 C6 C7 C8 C9 C10
  clear f0 f1 f2 f3 f4 f5 f6 c0 c1 c2 c3 c4 c5 c6
  go_wp2_with fail
  replace hB := hO.at hB (by show ¬ (bb = r ∨ bb = bh); omega)
  replace hD := hO.at hD (by show ¬ (bd = r ∨ bd = bh); omega)
  replace hK := hO.at hK (by show ¬ (bo = r ∨ bo = bh); omega)
  have hd8 : RB wn (.slice ad d.length cd) d := RV.away hd (fun hp b o n c e h => by have := HAV.out (by simpa using hp) b o n c e; omega) hO
  have hv8 := hR.rb
  have hl8 := HL.out
  have hp1 : RB wn (cutV av cv 0 24) (l.take 24) := by
    have := RV.cut hv8 (i := 0) (j := 24) (by omega) (by simp; omega)
    unfold RB
    simpa [List.map_take] using this
  have hp2 : RB wn (cutV av cv 32 l.length) (l.drop 32) := by
    have := RV.cut hv8 (i := 32) (j := l.length) (by omega) (by simp)
    unfold RB
    rw [List.map_drop]
    rwa [List.take_of_length_le (by simp)] at this
  clear hv8 hl8 hd hR
  have hO1 := hO.drew
  obtain ⟨a1, m1, c1, hc1⟩ : ∃ a m c, cutV av cv 0 24 = .slice a m c := ⟨_, _, _, rfl⟩
  obtain ⟨a2, m2, c2, hc2⟩ : ∃ a m c, cutV av cv 32 l.length = .slice a m c := ⟨_, _, _, rfl⟩
  rw [hc1] at hp1
  rw [hc2] at hp2
  simp only [hc1] at hrun1
  simp only [hc2] at hrun2
  clear hc1 hc2
  have HP1 := Lib.hid hp1
  have HP2 := Lib.hid hp2
  have HD8 := Lib.hid hd8
  clear hp1 hp2 hd8
  have k0 := cells_at hB 0 _ rfl
  have k1 := cells_at hD 0 _ rfl
  have k2 := cells_at hK 0 _ rfl
  have k3 := froz_at hK 0
  have hfin : ∀ (wz : World) (bv : Bool), Below wn.heap.size wn wz → bv = ok → (wz.setCell ⟨bo, 0, none⟩ (.bool bv)).heap[bh]? = some (.cells #[.int .u8 n1, .int .u32 n3, .int .u32 n4, .int .u16 n5, .int .u16 n6, .int .u32 n7, .int .u32 n8] 98 (0, 0)) ∧
      (wz.setCell ⟨bo, 0, none⟩ (.bool bv)).heap[bo]? = some (.cells #[.bool ok] 4 (0, 0)) ∧ Only (fun b => b = r ∨ b = bh ∨ b = bo) w (wz.setCell ⟨bo, 0, none⟩ (.bool bv)) := fun wz bv hb e => by
    subst e
    have hH9 := heap_keep hb hH
    have hK9 := heap_keep hb hK
    refine ⟨set_other _ hH9 (by show bh ≠ bo; omega), set_at (o := 0) hK9 _, ?_⟩
    exact ((hO.trans (Only.new hb fun _ => False) fun _ _ => False.elim).mono fun b _ h => by rcases h with h | h; exact .inl h; exact .inr (.inl h)).set _ _ fun _ => .inr (.inr rfl)
  have HFIN := Lib.hid hfin
  clear hfin hO hH hO1
  have hdr : Below wn.heap.size wn wn.drew := (Below.refl _ _).drew
  have HDR := Lib.hid hdr
  clear hdr
  by_cases h1 : (n0 : Int) = 22356
  rotate_left
  · (refine wp_region_mix [0, 1, 2, 3, 4, 5, 6, 7, 8, 9, 10, 11, 12, 13, 14, 15, 16, 17, 18, 19, 20, 21] [(true, true), (true, true), (true, true), (true, true), (true, true), (true, true), (true, true), (true, true), (true, true), (true, true), (true, true), (true, true), (true, false), (true, true), (true, false), (true, false), (true, true), (false, false), (false, false), (true, true), (true, true), (false, false)] [0, 1, 3, 7, 15, 31, 63, 127, 255, 511, 1023, 2047, 2047, 6143, 2047, 2047, 34815, 129023, 260095, 524287, 1048575, 2097151] _ (by kernel_rfl) (by kernel_rfl) (rfl : _ = _) ?_; simp only [pickL, List.map_cons, List.map_nil, List.getD_cons_succ, List.getD_cons_zero])
    repeat (first | (refine mix_pure (fun hne K hK => ?_); go_simp; refine hK _ ?_; clear hK K hne) | (refine mix_load ?_ (fun K hK => ?_); (focus (first | rfl | (go_simp; done))); go_simp; refine hK _ ?_; clear hK K) | (refine mix_skip ?_ (fun K hK => ?_); (focus (first | rfl | (go_simp; done))); go_simp; refine hK _ ?_; clear hK K))
    (refine mix_one (by first | rfl | (go_simp; done)) (fun R hR hX => ?_))
    go_wp2_with fail
    ((try simp only [wpList]); refine hR _ _ rfl ⟨fun w' => w' = _, rfl, (fun h => by cases h), ?_⟩; clear hR hX R)
    refine mix_done ?_
    go_wp2_with fail
    (try simp only [Exit.inBlock, Exit.then])
    first | refine bodyPost_end (results_none rfl _ _ _) rfl ?_ | refine bodyPost_ret (results_none rfl _ _ _) rfl ?_
    exact ⟨rfl, HFIN.out _ _ HDR.out (by rw [HOK.out, decide_eq_false (by omega : ¬ n0 = 22356)]; rfl)⟩
  by_cases h2 : n2 = 0
  rotate_left
  · (refine wp_region_mix [0, 1, 2, 3, 4, 5, 6, 7, 8, 9, 10, 11, 12, 13, 14, 15, 16, 17, 18, 19, 20, 21] [(true, true), (true, true), (true, true), (true, true), (true, true), (true, true), (true, true), (true, true), (true, true), (true, true), (true, true), (true, true), (true, false), (true, true), (true, false), (true, false), (true, true), (false, false), (false, false), (true, true), (true, true), (false, false)] [0, 1, 3, 7, 15, 31, 63, 127, 255, 511, 1023, 2047, 2047, 6143, 2047, 2047, 34815, 129023, 260095, 524287, 1048575, 2097151] _ (by kernel_rfl) (by kernel_rfl) (rfl : _ = _) ?_; simp only [pickL, List.map_cons, List.map_nil, List.getD_cons_succ, List.getD_cons_zero])
    repeat (first | (refine mix_pure (fun hne K hK => ?_); go_simp; refine hK _ ?_; clear hK K hne) | (refine mix_load ?_ (fun K hK => ?_); (focus (first | rfl | (go_simp; done))); go_simp; refine hK _ ?_; clear hK K) | (refine mix_skip ?_ (fun K hK => ?_); (focus (first | rfl | (go_simp; done))); go_simp; refine hK _ ?_; clear hK K))
    (refine mix_one (by first | rfl | (go_simp; done)) (fun R hR hX => ?_))
    go_wp2_with fail
    ((try simp only [wpList]); refine hR _ _ rfl ⟨fun w' => w' = _, rfl, (fun h => by cases h), ?_⟩; clear hR hX R)
    refine mix_done ?_
    go_wp2_with fail
    (try simp only [Exit.inBlock, Exit.then])
    first | refine bodyPost_end (results_none rfl _ _ _) rfl ?_ | refine bodyPost_ret (results_none rfl _ _ _) rfl ?_
    exact ⟨rfl, HFIN.out _ _ HDR.out (by rw [HOK.out, decide_eq_false (by omega : ¬ n2 = 0)]; simp)⟩
  by_cases h3 : n10 = 0
  rotate_left
  · (refine wp_region_mix [0, 1, 2, 3, 4, 5, 6, 7, 8, 9, 10, 11, 12, 13, 14, 15, 16, 17, 18, 19, 20, 21] [(true, true), (true, true), (true, true), (true, true), (true, true), (true, true), (true, true), (true, true), (true, true), (true, true), (true, true), (true, true), (true, false), (true, true), (true, false), (true, false), (true, true), (false, false), (false, false), (true, true), (true, true), (false, false)] [0, 1, 3, 7, 15, 31, 63, 127, 255, 511, 1023, 2047, 2047, 6143, 2047, 2047, 34815, 129023, 260095, 524287, 1048575, 2097151] _ (by kernel_rfl) (by kernel_rfl) (rfl : _ = _) ?_; simp only [pickL, List.map_cons, List.map_nil, List.getD_cons_succ, List.getD_cons_zero])
    repeat (first | (refine mix_pure (fun hne K hK => ?_); go_simp; refine hK _ ?_; clear hK K hne) | (refine mix_load ?_ (fun K hK => ?_); (focus (first | rfl | (go_simp; done))); go_simp; refine hK _ ?_; clear hK K) | (refine mix_skip ?_ (fun K hK => ?_); (focus (first | rfl | (go_simp; done))); go_simp; refine hK _ ?_; clear hK K))
    (refine mix_one (by first | rfl | (go_simp; done)) (fun R hR hX => ?_))
    go_wp2_with fail
    ((try simp only [wpList]); refine hR _ _ rfl ⟨fun w' => w' = _, rfl, (fun h => by cases h), ?_⟩; clear hR hX R)
    refine mix_done ?_
    go_wp2_with fail
    (try simp only [Exit.inBlock, Exit.then])
    first | refine bodyPost_end (results_none rfl _ _ _) rfl ?_ | refine bodyPost_ret (results_none rfl _ _ _) rfl ?_
    exact ⟨rfl, HFIN.out _ _ HDR.out (by rw [HOK.out, decide_eq_false (by omega : ¬ n10 = 0)]; simp)⟩
  (refine wp_region_mix [0, 1, 2, 3, 4, 5, 6, 7, 8, 9, 10, 11, 12, 13, 14, 15, 16, 17, 18, 19, 20, 21] [(true, true), (true, true), (true, true), (true, true), (true, true), (true, true), (true, true), (true, true), (true, true), (true, true), (true, true), (true, true), (true, false), (true, true), (true, false), (true, false), (true, true), (false, false), (false, false), (true, true), (true, true), (false, false)] [0, 1, 3, 7, 15, 31, 63, 127, 255, 511, 1023, 2047, 2047, 6143, 2047, 2047, 34815, 129023, 260095, 524287, 1048575, 2097151] _ (by kernel_rfl) (by kernel_rfl) (rfl : _ = _) ?_; simp only [pickL, List.map_cons, List.map_nil, List.getD_cons_succ, List.getD_cons_zero])
  repeat (first | (refine mix_pure (fun hne K hK => ?_); go_simp; refine hK _ ?_; clear hK K hne) | (refine mix_load ?_ (fun K hK => ?_); (focus (first | rfl | (go_simp; done))); go_simp; refine hK _ ?_; clear hK K) | (refine mix_skip ?_ (fun K hK => ?_); (focus (first | rfl | (go_simp; done))); go_simp; refine hK _ ?_; clear hK K))
  (refine mix_one (by first | rfl | (go_simp; done)) (fun R hR hX => ?_))
  go_wp2_with fail
  obtain ⟨wa, hwa⟩ : ∃ wa, wa = (wn.alloc (.cells #[.slice a1 m1 c1, .slice ad d.length cd, .slice a2 m2 c2] 23)).drew := ⟨_, rfl⟩
  have hba : Below wn.heap.size wn wa := by rw [hwa]; exact ((Below.refl _ _).alloc (Nat.le_refl _) _).drew
  have hs : wa.heap[wn.heap.size]? = some (.cells #[.slice a1 m1 c1, .slice ad d.length cd, .slice a2 m2 c2] 23 (0, 0)) := by rw [hwa]; exact heap_new wn _
  rw [← hwa]
  clear hwa
  have hR3 := RBB.cell3 (cells_at hs 0 _ rfl) (cells_at hs 1 _ rfl) (cells_at hs 2 _ rfl) (HP1.out.below hba) (HD8.out.below hba) (HP2.out.below hba)
  have HBA := Lib.hid hba
  have hka := heap_keep hba hK
  have k4 := cells_at hka 0 _ rfl
  have k5 := froz_at hka 0
  clear hs hba hka k0 k1 k2 k3 hB hD hK
  ((try simp only [wpList]); refine hR _ _ rfl ⟨fun w' => w' = _, rfl, (fun h => by cases h), ?_⟩; clear hR hX R)
  repeat (first | (refine mix_pure (fun hne K hK => ?_); go_simp; refine hK _ ?_; clear hK K hne) | (refine mix_load ?_ (fun K hK => ?_); (focus (first | rfl | (go_simp; done))); go_simp; refine hK _ ?_; clear hK K) | (refine mix_skip ?_ (fun K hK => ?_); (focus (first | rfl | (go_simp; done))); go_simp; refine hK _ ?_; clear hK K))
  have hsum : Calls Try.prog 72 #[.slice (some ⟨wn.heap.size, 0, none⟩) 3 3] wa fun e w' => e = .returned (.int .u32 (sn : Int)) ∧ wa = w' := (sum_of _ _ wa hR3).mono fun e w' h => ⟨by rw [h.1, HSN.out]; rfl, h.2⟩
  clear hR3
  (refine mix_one (by first | rfl | (go_simp; done)) (fun R hR hX => ?_))
  go_wp2_with fail
  refine hsum.mono ?_
  rintro e w' ⟨rfl, rfl⟩
  clear hsum
  go_wp2_with fail
  ((try simp only [wpList]); refine hR _ _ rfl ⟨fun w' => w' = _, rfl, (fun h => by cases h), ?_⟩; clear hR hX R)
  repeat (first | (refine mix_pure (fun hne K hK => ?_); go_simp; refine hK _ ?_; clear hK K hne) | (refine mix_load ?_ (fun K hK => ?_); (focus (first | rfl | (go_simp; done))); go_simp; refine hK _ ?_; clear hK K) | (refine mix_skip ?_ (fun K hK => ?_); (focus (first | rfl | (go_simp; done))); go_simp; refine hK _ ?_; clear hK K))
  (refine mix_one (by first | rfl | (go_simp; done)) (fun R hR hX => ?_))
  go_wp2_with fail
  ((try simp only [wpList]); refine hR _ _ rfl ⟨fun w' => w' = _, rfl, (fun h => by cases h), ?_⟩; clear hR hX R)
  refine mix_done ?_
  go_wp2_with fail
  (try simp only [Exit.inBlock, Exit.then])
  first | refine bodyPost_end (results_none rfl _ _ _) rfl ?_ | refine bodyPost_ret (results_none rfl _ _ _) rfl ?_
  refine ⟨rfl, HFIN.out _ _ HBA.out ?_⟩
  rw [HOK.out]
  have e1 : n0 = 22356 := by omega
  rw [decide_eq_true e1, decide_eq_true h2, decide_eq_true h3]
  by_cases h9 : n9 = sn
  · simp [h9]
  · have h9' : ¬ (n9 : Int) = (sn : Int) := by omega
    rw [Bool.true_and, Bool.true_and, Bool.true_and, decide_eq_false h9]
    first | exact beq_false_of_ne h9' | (rw [beq_eq_false_iff_ne]; exact h9')
end Go.Proofs.Ytogejjbclimjjaa
