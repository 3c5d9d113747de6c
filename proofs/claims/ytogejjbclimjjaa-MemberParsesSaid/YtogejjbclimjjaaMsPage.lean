/- member.Set.Page, of a set that is one. -/
--only r2
import Derived.Test.YtogejjbclimjjaaMsCheck
import Derived.Test.YtogejjbclimjjaaTabEnc
import Derived.Test.YtogejjbclimjjaaChain
import Derived.Test.YtogejjbclimjjaaWriterP
import Derived.Test.YtogejjbclimjjaaSeal
namespace Go.Proofs.Ytogejjbclimjjaa
set_option linter.unusedVariables false
set_option linter.unusedSimpArgs false
open Go.RowKit

theorem Ms.Ok.byte {n b : Nat} {S : Ms} (h : S.Ok n b) (hn : n ≤ 16) (hb : b ≤ 64) : S.chips.length = n ∧ (∀ x ∈ S.chips, 0 ≤ x ∧ x < 256) ∧ (0 ≤ S.spare ∧ S.spare < 256) ∧ (0 ≤ S.dead ∧ S.dead < 256) ∧ 0 ≤ S.done ∧ S.done < 256 := by
  obtain ⟨h1, h2⟩ := h
  unfold Ms.bad at h1
  have hin : ∀ x ∈ S.list, 0 ≤ x ∧ x < 256 := fun x hx => by
    obtain ⟨j, hj, rfl⟩ := List.getElem_of_mem hx
    have := h2 j hj
    omega
  refine ⟨by omega, fun x hx => hin x ?_, ?_, by omega, by omega⟩
  · unfold Ms.list; split
    · exact hx
    · exact List.mem_append_left _ hx
  · by_cases e : S.spare = 255
    · omega
    · exact hin _ (by unfold Ms.list; rw [if_neg e]; simp)

/-- a set's bytes -/
def msB (S : Ms) (b p s : Nat) : List UInt8 := [] ++ leAll 4 [S.seq] ++ leAll 1 [S.chips.length] ++ leAll 1 (S.chips.map Int.toNat) ++ leAll 1 [S.spare.toNat, S.dead.toNat, S.done.toNat] ++ leAll 2 [b, p, s]
theorem msB_length (S : Ms) (b p s : Nat) : (msB S b p s).length = 14 + S.chips.length := by simp [msB, leAll_length]; omega
def msD (S : Ms) (b p s : Nat) : List UInt8 := msB S b p s ++ List.replicate (s - (msB S b p s).length) 0
def msH (S : Ms) : Hdr := ⟨2, S.seq, 0, 0, 1, 0, 0⟩
theorem msH_ok {S : Ms} (h : S.seq < 4294967296) : (msH S).Ok := ⟨by show 2 < 256; decide, h, by show 0 < 4294967296; decide, by show 0 < 65536; decide, by show 1 < 65536; decide, by show 0 < 4294967296; decide, by show 0 < 4294967296; decide⟩
def MPageEnds (S : Ms) (b p s : Nat) (w : World) (e : Ending) (w' : World) : Prop :=
  ∃ x y, e = .returned (.tuple #[x, y, .int .i64 0]) ∧ RB w' x (msD S b p s) ∧ RB w' y (sealB (msH S) (msD S b p s) []) ∧ Below w.heap.size w w'

set_option maxRecDepth 100000 in
set_option maxHeartbeats 2000000 in
theorem mspage_calls (n b pp s : Nat) (S : Ms) (vc : Value) (w : World) (hS : MsAt w S vc) (hg : geoOk n b pp s) (hok : S.Ok n b) :
    Calls Try.prog 19 #[S.val vc, geoV n b pp s] w (MPageEnds S b pp s w) := by
  have hfin : ∀ x y w', RB w' x (msD S b pp s) → RB w' y (sealB (msH S) (msD S b pp s) []) → Below w.heap.size w w' → MPageEnds S b pp s w (.returned (.tuple #[x, y, .int .i64 0])) w' := fun x y w' h1 h2 h3 => ⟨x, y, rfl, h1, h2, h3⟩
  generalize MPageEnds S b pp s w = Post at hfin ⊢
  have HF := Lib.hid hfin
  clear hfin
  obtain ⟨g1, g2, g3, g4, g5, g6, g7, g8, -⟩ := id hg
  obtain ⟨hcl, hcb, hsb, hdb, hnb⟩ := hok.byte (by omega) (by omega)
  obtain ⟨a, cap, rfl, hcap, hmax⟩ := hS.c.form
  obtain ⟨q, hq⟩ : ∃ q, q = w.heap.size := ⟨_, rfl⟩
  obtain ⟨w1, hw1⟩ : ∃ w1, w1 = (w.alloc (.cells (S.cells (.slice a S.chips.length cap)) 37)).alloc (.cells #[.int .i64 n, .int .i64 b, .int .i64 pp, .int .i64 s] 28) := ⟨_, rfl⟩
  have hal : Below w.heap.size w w1 := by rw [hw1]; exact ((Below.refl w.heap.size w).alloc (Nat.le_refl _) _).alloc (by simp) _
  have hQ : w1.heap[q]? = some (.cells (S.cells (.slice a S.chips.length cap)) 37 (0, 0)) := by rw [hw1]; exact heap_old _ (heap_is hq)
  have hG : w1.heap[q + 1]? = some (.cells #[.int .i64 n, .int .i64 b, .int .i64 pp, .int .i64 s] 28 (0, 0)) := by rw [hw1]; exact heap_is (by simp [hq])
  have hch := mscheck_calls n b pp s S _ w1 (hS.below hal) hg (by omega)
  unfold MCheckEnds at hch
  rw [show S.err n b = 0 from if_pos hok] at hch
  have hseq := hS.seq
  obtain ⟨sq, xs, sp, dd, dn⟩ := S
  simp only at hcl hcb hsb hdb hnb hseq hcap
  obtain ⟨sp, rfl⟩ : ∃ m : Nat, sp = m := ⟨sp.toNat, by omega⟩
  obtain ⟨dd, rfl⟩ : ∃ m : Nat, dd = m := ⟨dd.toNat, by omega⟩
  obtain ⟨dn, rfl⟩ : ∃ m : Nat, dn = m := ⟨dn.toNat, by omega⟩
  unfold Ms.val Ms.cells at hch
  unfold Ms.cells at hw1 hQ
  simp only [hcl] at hch hw1 hQ hS
  have hri : RI w (.slice a n cap) xs := hS.c
  have HW1 := Lib.hid hw1
  have HX := Lib.hid (⟨hch, hal, hQ, hG, hri, hcb, hcl, hq⟩ : _ ∧ _ ∧ _ ∧ _ ∧ _ ∧ _ ∧ _ ∧ _)
  have q0 := cells_at hQ 0 _ rfl
  have q1 := cells_at hQ 1 _ rfl
  have q2 := cells_at hQ 2 _ rfl
  have q3 := cells_at hQ 3 _ rfl
  have q4 := cells_at hQ 4 _ rfl
  have k0 := cells_at hG 0 _ rfl
  have k1 := cells_at hG 1 _ rfl
  have k2 := cells_at hG 2 _ rfl
  have k3 := cells_at hG 3 _ rfl
  simp only [List.getElem_toArray, List.getElem_cons_succ, List.getElem_cons_zero] at q0 q1 q2 q3 q4 k0 k1 k2 k3
  have hlq := heap_lt hQ
  have hlg := heap_lt hG
  unfold Ms.val Ms.cells
  simp only [hcl]
  clear hch hal hQ hG hri hw1 hS hok hg hcb hcl
  go_enter Try.func19, Try.ntmps19
  go_upto_region 1 with (fail)
  rw [← hq, ← HW1.out]
  clear hq HW1
  go_wp2_with fail
  refine HX.out.1.mono ?_
  rintro e w2 ⟨rfl, hb2⟩
  obtain ⟨p, hp⟩ : ∃ p, p = w2.heap.size := ⟨_, rfl⟩
  obtain ⟨base, hbase⟩ : ∃ base, base = p + 1 := ⟨_, rfl⟩
  obtain ⟨w3, hw3⟩ : ∃ w3, w3 = w2.alloc (.cells #[.slice none 0 0] 115) := ⟨_, rfl⟩
  have hb13 : Below w1.heap.size w1 w3 := by rw [hw3]; exact hb2.alloc hb2.size _
  have hB3 := HX.out.2.1.trans (hb13.mono HX.out.2.1.size)
  have hP3 : w3.heap[p]? = some (.cells #[.slice none 0 0] 115 (0, 0)) := by rw [hw3]; exact heap_is hp
  have hs3 : w3.heap.size = p + 1 := by rw [hw3, hp]; simp
  have hW3 : Wr w3 p base (.slice none 0 0) [] := Wr.empty hP3 (by omega) (by omega)
  have hqp : q + 1 < p := by
    have h1 := heap_lt HX.out.2.2.2.1
    have h2 := hb2.size
    omega
  have hB : w.heap.size ≤ p := by have := HX.out.2.2.2.2.2.2.2; omega
  obtain ⟨K, hKd⟩ : ∃ K, K = [(q, Obj.cells #[.int .u32 sq, .slice a n cap, .int .i64 sp, .int .i64 dd, .int .i64 dn] 37 (0, 0)), (q + 1, Obj.cells #[.int .i64 n, .int .i64 b, .int .i64 pp, .int .i64 s] 28 (0, 0))] := ⟨_, rfl⟩
  have hK : ∀ x ∈ K, x.1 < base ∧ x.1 ≠ p := fun x hx => by
    rw [hKd] at hx
    simp only [List.mem_cons, List.not_mem_nil, or_false] at hx
    rcases hx with rfl | rfl
    · exact ⟨by show q < base; omega, by show q ≠ p; omega⟩
    · exact ⟨by show q + 1 < base; omega, by show q + 1 ≠ p; omega⟩
  have hHeld : Held K w3 := fun x hx => by
    rw [hKd] at hx
    simp only [List.mem_cons, List.not_mem_nil, or_false] at hx
    rcases hx with rfl | rfl
    · exact heap_keep hb13 HX.out.2.2.1
    · exact heap_keep hb13 HX.out.2.2.2.1
  have f0 : ∀ w', Held K w' → w'.cell? ⟨q, 0, none⟩ = some (.int .u32 sq) := fun w' h => h.cell (by rw [hKd]; exact List.mem_cons_self) 0 _ rfl
  have f1 : ∀ w', Held K w' → w'.cell? ⟨q, 1, none⟩ = some (.slice a n cap) := fun w' h => h.cell (by rw [hKd]; exact List.mem_cons_self) 1 _ rfl
  have f2 : ∀ w', Held K w' → w'.cell? ⟨q, 2, none⟩ = some (.int .i64 sp) := fun w' h => h.cell (by rw [hKd]; exact List.mem_cons_self) 2 _ rfl
  have f3 : ∀ w', Held K w' → w'.cell? ⟨q, 3, none⟩ = some (.int .i64 dd) := fun w' h => h.cell (by rw [hKd]; exact List.mem_cons_self) 3 _ rfl
  have f4 : ∀ w', Held K w' → w'.cell? ⟨q, 4, none⟩ = some (.int .i64 dn) := fun w' h => h.cell (by rw [hKd]; exact List.mem_cons_self) 4 _ rfl
  have e1' : ∀ w', Held K w' → w'.cell? ⟨q + 1, 1, none⟩ = some (.int .i64 b) := fun w' h => h.cell (by rw [hKd]; exact List.mem_cons_of_mem _ List.mem_cons_self) 1 _ rfl
  have e2' : ∀ w', Held K w' → w'.cell? ⟨q + 1, 2, none⟩ = some (.int .i64 pp) := fun w' h => h.cell (by rw [hKd]; exact List.mem_cons_of_mem _ List.mem_cons_self) 2 _ rfl
  have e3' : ∀ w', Held K w' → w'.cell? ⟨q + 1, 3, none⟩ = some (.int .i64 s) := fun w' h => h.cell (by rw [hKd]; exact List.mem_cons_of_mem _ List.mem_cons_self) 3 _ rfl
  have hq2 : ∀ w', Held K w' → q < w'.heap.size ∧ q + 1 < w'.heap.size := fun w' h => by
    have a1 := h _ (by rw [hKd]; exact List.mem_cons_self)
    have a2 := h _ (by rw [hKd]; exact List.mem_cons_of_mem _ List.mem_cons_self)
    exact ⟨heap_lt a1, heap_lt a2⟩
  have FF := Lib.hid (⟨f0, f1, f2, f3, f4, e1', e2', e3', hq2⟩ : _ ∧ _ ∧ _ ∧ _ ∧ _ ∧ _ ∧ _ ∧ _ ∧ _)
  have hd := (Below.refl w3.heap.size w3).drew
  have hA : WA K p base [] w.heap.size w (fun b => b = p ∨ (Value.slice none 0 0).ownBlock = some b) w3.drew := ⟨hHeld.below hd, _, hW3.below hd, rfl, hB3.drew⟩
  have HW3 := Lib.hid hw3
  have en : IntKind.u8.wrap (n : Int) = (n : Int) := IntWalk.u8_in _ ⟨by omega, by omega⟩
  clear hKd hbase hb2 hb13 hB3 hP3 hs3 hW3 hHeld hd hw3 hq2 f2 f3 f4 e1' e2' e3'
  go_upto_region 5 with (fail)
  rw [← hp, ← HW3.out]
  clear hp HW3 q0 q1 q2 q3 q4 k0 k1 k2 k3 hlq hlg
  (refine wp_region_born [.soft 0, .soft 1, .soft 2, .soft 5, .soft 6, .soft 7, .soft 8, .ann 3, .ann 9, .take 3, .hard 4, .take 9, .hard 10] [(true, true), (true, true), (true, false), (false, false), (false, false), (true, true), (true, false), (true, true), (true, true), (false, false), (false, false)] [0, 0, 2, 6, 15, 0, 32, 96, 224, 480, 1023] (Held K) (WA K p base [] w.heap.size w) (fun b => b = p ∨ (Value.slice none 0 0).ownBlock = some b) (by kernel_rfl) (by kernel_rfl) ?_ ?_ ?_)
  · exact WA.good hB
  · exact hA
  clear hA
  iterate 7 (first | (refine bx_pure rfl (fun KK hKK => ?_); go_simp; refine hKK _ ?_; clear hKK KK) | (refine bx_load rfl rfl ?_ (fun KK hKK => ?_); (focus (first | rfl | (go_simp; done))); apply Exists.intro; apply And.intro; (focus (intro w' hC; go_simp; exact rfl)); go_simp; refine hKK _ ?_; clear hKK KK) | (refine bx_skip rfl ?_ (fun KK hKK => ?_); (focus (first | rfl | (go_simp; done))); go_simp; refine hKK _ ?_; clear hKK KK))
  iterate 2 (apply bx_ann rfl; (focus (intro w n hL hn; go_simp; (first | exact ⟨rfl, rfl⟩ | exact rfl))))
  (refine bx_take rfl rfl (fun b1 KK hKK => ?_); go_simp; refine hKK _ ?_; clear hKK KK)
  (refine bx_one rfl (by first | rfl | (go_simp; done)) (fun G wc hA R hR hX => ?_); obtain ⟨⟨hH, v, hW, rfl, hbw⟩, hs, hnG⟩ := hA; go_wp2_with fail; refine (wU32_calls p base v _ _ [sq] wc hW (RV.cells hs rfl (by simp) rfl) (WA.apart hnG) (by simp only [List.mem_cons, List.not_mem_nil, or_false, forall_eq_or_imp, forall_eq]; omega) (by simp [leAll_length]) (by simp)).mono ?_; rintro e wn ⟨rfl, vn, hWn, hg⟩; go_wp2_with fail; refine hR _ _ rfl ⟨_, _, WA.good hB, WA.next hB hK hH hW hbw hWn hg, hg.only, WA.row hg, ?_⟩; clear hR hX R hH hW hbw hs hnG hWn hg)
  (refine bx_take rfl rfl (fun b2 KK hKK => ?_); go_simp; refine hKK _ ?_; clear hKK KK)
  (refine bx_one rfl (by first | rfl | (go_simp; done)) (fun G wc hA R hR hX => ?_); obtain ⟨⟨hH, v, hW, rfl, hbw⟩, hs, hnG⟩ := hA; go_wp2_with fail; refine (wU8_calls p base v _ _ [n] wc hW (RV.cells hs rfl (by simp) rfl) (WA.apart hnG) (by simp only [List.mem_cons, List.not_mem_nil, or_false, forall_eq_or_imp, forall_eq]; omega) (by simp [leAll_length]) (by simp)).mono ?_; rintro e wn ⟨rfl, vn, hWn, hg⟩; go_wp2_with fail; refine hR _ _ rfl ⟨_, _, WA.good hB, WA.next hB hK hH hW hbw hWn hg, hg.only, WA.row hg, ?_⟩; clear hR hX R hH hW hbw hs hnG hWn hg)
  refine bx_done (fun G wz hz => ?_)
  clear f0 f1
  have HZ := Lib.hid hz
  have HBK := Lib.hid (⟨hB, hK⟩ : _ ∧ _)
  have f1 := FF.out.2.1 wz hz.1
  have hlq := (FF.out.2.2.2.2.2.2.2.2 wz hz.1).1
  clear hz hB hK
  go_wp2_with fail
  clear f1 hlq
  obtain ⟨l0, hl0⟩ : ∃ l0, l0 = [] ++ leAll 4 [sq] ++ leAll 1 [n] := ⟨_, rfl⟩
  have hl0l : l0.length ≤ 100 := by rw [hl0]; simp [leAll_length]
  rw [← hl0] at HZ
  have HL0 := Lib.hid hl0
  clear hl0
  go_loopw [33] (fun i wr => ∃ j : Nat, j ≤ n ∧ i = .int .i64 j ∧ ∃ G, WA K p base (l0 ++ leAll 1 ((xs.take j).map Int.toNat)) w.heap.size w G wr) (fun i _ => n - (intOf i).toNat)
  case atStart => exact ⟨0, by omega, rfl, G, by simpa [leAll] using HZ.out⟩
  case round =>
    clear HZ
    obtain ⟨j, hj, rfl, G', hwa⟩ := hrel
    obtain ⟨hH, v', hW, rfl, hbw⟩ := hwa
    have hxr : RI wr (.slice a n cap) xs := HX.out.2.2.2.2.1.below hbw
    by_cases hjl : j < n
    · have hj' : (j : Int) < (n : Int) := by omega
      have hjx : j < xs.length := by have := HX.out.2.2.2.2.2.2.1; omega
      obtain ⟨lb, lo, lc, hle, hc⟩ := hxr.at hjx
      rw [HX.out.2.2.2.2.2.2.1] at hle
      simp only [Value.slice.injEq] at hle
      obtain ⟨rfl, -, rfl⟩ := hle
      have hlc := cell_lt hc
      have htk : (xs.take (j + 1)).map Int.toNat = (xs.take j).map Int.toNat ++ [(xs[j]).toNat] := by rw [List.take_succ_eq_append_getElem hjx, List.map_append]; rfl
      obtain ⟨c0, c1⟩ := HX.out.2.2.2.2.2.1 xs[j] (List.getElem_mem hjx)
      generalize xs[j] = x at hc htk c0 c1
      obtain ⟨m, rfl⟩ : ∃ m : Nat, x = m := ⟨x.toNat, by omega⟩
      rw [Int.toNat_natCast] at htk
      have e1 : IntKind.u8.wrap (m : Int) = (m : Int) := IntWalk.u8_in _ ⟨by omega, by omega⟩
      have hal := (Below.refl wr.heap.size wr).alloc (Nat.le_refl _) (.cells #[.int .u8 m] 5)
      have hrv : RV (wr.alloc (.cells #[.int .u8 m] 5)) (.slice (some ⟨wr.heap.size, 0, none⟩) 1 1) ([m].map fun (n : Nat) => Value.int .u8 (n : Int)) := RV.single _ _
      have hln : (l0 ++ leAll 1 ((xs.take j).map Int.toNat)).length ≤ 100000000 := by simp only [List.length_append, leAll_length, List.length_map, List.length_take]; omega
      have h1 := wU8_calls p base v' _ _ [m] _ (hW.below hal) hrv (ApartW.new hW) (by simp; omega) hln (by simp)
      have HU := Lib.hid (⟨h1, hal, hW, hH, hbw, htk⟩ : _ ∧ _ ∧ _ ∧ _ ∧ _ ∧ _)
      have HJ := Lib.hid hjl
      clear h1 hal hW hH hbw htk hrv hln hxr c0 c1 hjl
      go_wp2_with fail
      refine HU.out.1.mono ?_
      rintro e w5 ⟨rfl, v5, hW5, hg5⟩
      obtain ⟨-, hal, hW, hH, hbw, htk⟩ := HU.out
      have hg5' : Grow p v' v5 wr w5 := ⟨(Only.new hal _).trans hg5.only fun _ _ h => h, fun g h => (hg5.row g h).imp_right fun h => Nat.le_trans hal.size h⟩
      rw [List.append_assoc, ← leAll1_snoc, ← htk] at hW5
      have hwa := WA.next HBK.out.1 HBK.out.2 hH hW hbw hW5 hg5'
      have HN := Lib.hid hwa
      clear hal hW hH hbw htk hW5 hg5 hg5' hwa HU
      go_wp2_with fail
      go_roundw
      case rel => exact ⟨j + 1, HJ.out, by go_num, _, HN.out⟩
      case measure =>
        show n - ((j : Int) + 1).toNat < n - (j : Int).toNat
        have := HJ.out
        omega
    · obtain rfl : j = n := by omega
      have hxn : xs.take j = xs := List.take_of_length_le (by have := HX.out.2.2.2.2.2.2.1; omega)
      rw [hxn] at hW
      have hA : WA K p base (l0 ++ leAll 1 (xs.map Int.toNat)) w.heap.size w (fun b => b = p ∨ v'.ownBlock = some b) wr.drew := ⟨hH.below (Below.refl _ _).drew, v', hW.below (Below.refl _ _).drew, rfl, hbw.drew⟩
      have hxl : xs.length = j := HX.out.2.2.2.2.2.2.1
      have hl1 : (l0 ++ leAll 1 (xs.map Int.toNat)).length ≤ 1000 := by simp only [List.length_append, leAll_length, List.length_map]; omega
      obtain ⟨l1, hl1e⟩ : ∃ l1, l1 = l0 ++ leAll 1 (xs.map Int.toNat) := ⟨_, rfl⟩
      rw [← hl1e] at hA hl1
      have HL1 := Lib.hid hl1e
      have hB := HBK.out.1
      have hK := HBK.out.2
      obtain ⟨f0, f1, f2, f3, f4, e1', e2', e3', -⟩ := FF.out
      have u2 : IntKind.u8.wrap (sp : Int) = (sp : Int) := IntWalk.u8_in _ ⟨by omega, by omega⟩
      have u3 : IntKind.u8.wrap (dd : Int) = (dd : Int) := IntWalk.u8_in _ ⟨by omega, by omega⟩
      have u4 : IntKind.u8.wrap (dn : Int) = (dn : Int) := IntWalk.u8_in _ ⟨by omega, by omega⟩
      have u5 : IntKind.u16.wrap (b : Int) = (b : Int) := IntWalk.u16_in _ ⟨by omega, by omega⟩
      have u6 : IntKind.u16.wrap (pp : Int) = (pp : Int) := IntWalk.u16_in _ ⟨by omega, by omega⟩
      have u7 : IntKind.u16.wrap (s : Int) = (s : Int) := IntWalk.u16_in _ ⟨by omega, by omega⟩
      clear hxn hl1e hxl hW hH hbw hxr hjl hj f0 f1
      go_upto_region 11 with (fail)
      (refine wp_region_born [.soft 0, .soft 1, .soft 2, .soft 3, .soft 4, .soft 5, .soft 6, .soft 7, .soft 8, .soft 9, .soft 12, .soft 13, .soft 14, .soft 15, .soft 16, .soft 17, .soft 18, .soft 19, .soft 20, .ann 10, .ann 21, .take 10, .hard 11, .take 21, .hard 22] [(true, true), (true, true), (true, false), (true, true), (true, true), (true, false), (true, true), (true, true), (true, false), (true, true), (false, false), (false, false), (true, true), (true, false), (true, true), (true, true), (true, false), (true, true), (true, true), (true, false), (true, true), (false, false), (false, false)] [0, 0, 2, 6, 0, 16, 48, 0, 128, 384, 1022, 2047, 0, 4096, 12288, 0, 32768, 98304, 0, 262144, 786432, 2093056, 4194303] (Held K) (WA K p base l1 w.heap.size w) (fun b => b = p ∨ v'.ownBlock = some b) (by kernel_rfl) (by kernel_rfl) ?_ ?_ ?_)
      · exact WA.good hB
      · exact hA
      clear hA
      iterate 19 (first | (refine bx_pure rfl (fun KK hKK => ?_); go_simp; refine hKK _ ?_; clear hKK KK) | (refine bx_load rfl rfl ?_ (fun KK hKK => ?_); (focus (first | rfl | (go_simp; done))); apply Exists.intro; apply And.intro; (focus (intro w' hC; go_simp; exact rfl)); go_simp; refine hKK _ ?_; clear hKK KK) | (refine bx_skip rfl ?_ (fun KK hKK => ?_); (focus (first | rfl | (go_simp; done))); go_simp; refine hKK _ ?_; clear hKK KK))
      iterate 2 (apply bx_ann rfl; (focus (intro w n hL hn; go_simp; (first | exact ⟨rfl, rfl⟩ | exact rfl))))
      (refine bx_take rfl rfl (fun b3 KK hKK => ?_); go_simp; refine hKK _ ?_; clear hKK KK)
      (refine bx_one rfl (by first | rfl | (go_simp; done)) (fun G wc hA R hR hX => ?_); obtain ⟨⟨hH, v, hW, rfl, hbw⟩, hs, hnG⟩ := hA; go_wp2_with fail; refine (wU8_calls p base v _ _ [sp, dd, dn] wc hW (RV.cells hs rfl (by simp) rfl) (WA.apart hnG) (by simp only [List.mem_cons, List.not_mem_nil, or_false, forall_eq_or_imp, forall_eq]; omega) (by (try simp [leAll_length]); omega) (by simp)).mono ?_; rintro e wn ⟨rfl, vn, hWn, hg⟩; go_wp2_with fail; refine hR _ _ rfl ⟨_, _, WA.good hB, WA.next hB hK hH hW hbw hWn hg, hg.only, WA.row hg, ?_⟩; clear hR hX R hH hW hbw hs hnG hWn hg)
      (refine bx_take rfl rfl (fun b4 KK hKK => ?_); go_simp; refine hKK _ ?_; clear hKK KK)
      (refine bx_one rfl (by first | rfl | (go_simp; done)) (fun G wc hA R hR hX => ?_); obtain ⟨⟨hH, v, hW, rfl, hbw⟩, hs, hnG⟩ := hA; go_wp2_with fail; refine (wU16_calls p base v _ _ [b, pp, s] wc hW (RV.cells hs rfl (by simp) rfl) (WA.apart hnG) (by simp only [List.mem_cons, List.not_mem_nil, or_false, forall_eq_or_imp, forall_eq]; omega) (by (try simp [leAll_length]); omega) (by simp)).mono ?_; rintro e wn ⟨rfl, vn, hWn, hg⟩; go_wp2_with fail; refine hR _ _ rfl ⟨_, _, WA.good hB, WA.next hB hK hH hW hbw hWn hg, hg.only, WA.row hg, ?_⟩; clear hR hX R hH hW hbw hs hnG hWn hg)
      refine bx_done (fun G2 wy hy => ?_)
      have HY := Lib.hid hy
      have hlq := (FF.out.2.2.2.2.2.2.2.2 wy hy.1).1
      have hlg := (FF.out.2.2.2.2.2.2.2.2 wy hy.1).2
      have e3 := FF.out.2.2.2.2.2.2.2.1 wy hy.1
      obtain ⟨l2, hl2⟩ : ∃ l2, l2 = l1 ++ leAll 1 [sp, dd, dn] ++ leAll 2 [b, pp, s] := ⟨_, rfl⟩
      have hl2l : l2.length ≤ 2000 := by rw [hl2]; simp [leAll_length]; omega
      rw [← hl2] at HY
      have hmb : l2 = msB ⟨sq, xs, sp, dd, dn⟩ b pp s := by
        rw [hl2, HL1.out, HL0.out]
        unfold msB
        rw [HX.out.2.2.2.2.2.2.1]
        simp only [Int.toNat_natCast]
      have HMB := Lib.hid hmb
      obtain ⟨hHy, vy, hWy, -, hby⟩ := hy
      rw [← hl2] at hWy
      have hpad := wPad_calls p base s vy l2 wy hWy (by omega) (by omega)
      have HPAD := Lib.hid (⟨hpad, hWy, hHy, hby⟩ : _ ∧ _ ∧ _ ∧ _)
      clear hl2 hmb hHy hWy hby hpad HY f2 f3 f4 e1' e2' e3' hB hK
      go_upto_region 12 with (fail)
      go_wp2_with fail
      refine HPAD.out.1.mono ?_
      rintro e wp ⟨rfl, vp, hWp, hgp⟩
      obtain ⟨-, hWy, hHy, hby⟩ := HPAD.out
      have hwa := WA.next HBK.out.1 HBK.out.2 hHy hWy hby hWp hgp
      obtain ⟨hHp, vp', hWp', -, hbp⟩ := hwa
      clear hWp hgp hWy hHy hby HPAD
      have hbyt := wBytes_calls p base vp' _ wp hWp' (by simp only [List.length_append, List.length_replicate]; omega)
      have HBY := Lib.hid (⟨hbyt, hHp, hbp⟩ : _ ∧ _ ∧ _)
      clear hbyt hHp hbp hWp' hlq hlg e3
      go_wp2_with fail
      refine HBY.out.1.mono ?_
      rintro e wq ⟨x, rfl, hx, hbq⟩
      have hxr : RB wq x (msD ⟨sq, xs, sp, dd, dn⟩ b pp s) := by
        have := RV.own hx
        rw [HMB.out] at this
        exact this
      obtain ⟨xa, xk, hxe, -, -⟩ := hxr.form
      subst hxe
      have hHq := HBY.out.2.1.below hbq
      have hBq := HBY.out.2.2.trans (hbq.mono HBY.out.2.2.size)
      have hse := seal_calls (msH ⟨sq, xs, sp, dd, dn⟩) (msH_ok hseq) _ (.slice none 0 0) _ [] wq hxr (RB.nil _) (by
        unfold msD
        rw [← HMB.out]
        simp only [List.length_append, List.length_replicate]; omega)
      unfold msH Hdr.v Hdr.cells at hse
      have hse : Calls Try.prog 58 #[.agg #[.int .u8 2, .int .u32 sq, .int .u32 0, .int .u16 0, .int .u16 1, .int .u32 0, .int .u32 0], _, .slice none 0 0] wq _ := hse
      have f0 := FF.out.1 wq hHq
      have hlq := (FF.out.2.2.2.2.2.2.2.2 wq hHq).1
      generalize (msD ⟨sq, xs, sp, dd, dn⟩ b pp s).length = dl at hxr hse ⊢
      have HS := Lib.hid (⟨hse, hxr, hBq⟩ : _ ∧ _ ∧ _)
      clear hse hxr hBq hHq hx hbq HBY
      go_wp2_with fail
      refine HS.out.1.mono ?_
      rintro e we ⟨y, rfl, hy, hbe⟩
      have hyr : RB we y (sealB (msH ⟨sq, xs, sp, dd, dn⟩) (msD ⟨sq, xs, sp, dd, dn⟩ b pp s) []) := by
        have := RV.own hy
        exact this
      obtain ⟨ya, yk, rfl⟩ := own_slice hy
      have HE := Lib.hid (HF.out _ _ we (HS.out.2.1.below hbe) hyr (HS.out.2.2.trans (hbe.mono HS.out.2.2.size)))
      clear hyr hy hbe HS
      go_wp2_with fail
      exact HE.out
end Go.Proofs.Ytogejjbclimjjaa
