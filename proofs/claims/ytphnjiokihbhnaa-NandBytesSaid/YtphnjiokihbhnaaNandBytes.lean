/- NandBytes: the walk. -/
--only r2
import Derived.Test.YtphnjiokihbhnaaTwoProg
import Derived.Test.YtphnjiokihbhnaaSoundLaw
import Derived.Test.YtphnjiokihbhnaaOpenLoads
import Derived.Test.YtphnjiokihbhnaaTwoMade
import Derived.Test.YtphnjiokihbhnaaNandSame
import Derived.Test.YtphnjiokihbhnaaNandLoad2
import Derived.Test.YtphnjiokihbhnaaRefNew
import Derived.Test.YtphnjiokihbhnaaTurnLaw
import Derived.Deep.DeepCutAuto
namespace Go.Proofs.Ytphnjiokihbhnaa.lawNandBytes
set_option linter.unusedVariables false
set_option linter.unusedSimpArgs false
open Go.RowKit Go.ChangeShapes Go.WideShapes

/-- a byte of an own row is set -/
theorem own_setByte {w : World} {base g cap n t i : Nat} {l : List UInt8} (h : w.ownsRow base t 1 (.slice (some ⟨g, 0, none⟩) n cap) n (l.map u8v)) (hn : n = l.length) (hi : i < n) (c : UInt8) :
    RB (w.setCell ⟨g, i, none⟩ (u8v c)) (.slice (some ⟨g, 0, none⟩) n cap) (l.set i c) := by
  rcases h.2 with ⟨h0, _⟩ | ⟨g', cap', cur, h0, hgb, hgg, hnc, hcm, hcs, htk⟩
  · cases h0
  · simp only [Value.slice.injEq, Option.some.injEq, Addr.mk.injEq, and_true, true_and] at h0
    obtain ⟨rfl, rfl⟩ := h0
    have hs := set_at (o := i) hgg (u8v c)
    refine ⟨some ⟨g, 0, none⟩, cap, by simp [hn], by simp; omega, hcm, (fun h => by cases h), .inr ⟨g, 0, rfl, fun j hj => ?_⟩⟩
    simp only [List.length_map, List.length_set] at hj
    rw [Nat.zero_add]
    refine cells_at hs j _ ?_
    have hcj : cur[j]? = some (u8v l[j]) := by
      have h2 : (cur.toList.take (n * 1))[j]? = some (u8v l[j]) := by
        rw [htk, List.getElem?_map, List.getElem?_eq_getElem hj]; rfl
      rw [List.getElem?_take, if_pos (by omega)] at h2
      simpa using h2
    have hlt : j < cur.size := (Array.getElem?_eq_some_iff.mp hcj).1
    rw [Array.getElem?_setIfInBounds]
    by_cases e : i = j
    · subst e; simp [hlt]
    · rw [if_neg e, hcj]; simp [List.getElem_set, e]

set_option maxRecDepth 100000 in
set_option maxHeartbeats 6000000 in
theorem law (vb : Value) (b : List UInt8) (chips : Int) (r : Value) (row : List POp) (at' : Int) (c : UInt8) (w : World) (hb : RB w vb b) (hv : ROps w r row) (hI : ∀ x ∈ row, x.Ok) (hat : I64 at') :
    Calls Try.prog 7 #[.agg #[vb, .int .i64 chips, r, .int .i64 at', u8v c]] w (IsTrue w) := by
  obtain ⟨av, cv, rfl, hlc, hmc, hrow⟩ := id hv
  obtain ⟨ab, cb, rfl, hlb, hmb⟩ := hb.form
  unfold maxLen at hmc hmb
  clear hrow
  have hfin : ∀ w', Below w.heap.size w w' → IsTrue w (.returned (.bool true)) w' := fun w' h => ⟨rfl, h⟩
  generalize IsTrue w = Post at hfin ⊢
  have HF := Lib.hid hfin
  have HI := Lib.hid hI
  have HV := Lib.hid hv
  have HAT := Lib.hid hat
  clear hfin hI hv hat
  have hal := (Below.refl w.heap.size w).alloc (Nat.le_refl _) (.cells #[.slice ab b.length cb, .int .i64 chips, .slice av row.length cv, .int .i64 at', u8v c] 76)
  have hQ : (w.alloc (.cells #[.slice ab b.length cb, .int .i64 chips, .slice av row.length cv, .int .i64 at', u8v c] 76)).heap[w.heap.size]? = some (.cells #[.slice ab b.length cb, .int .i64 chips, .slice av row.length cv, .int .i64 at', u8v c] 76 (0, 0)) := heap_is rfl
  obtain ⟨q, hq⟩ : ∃ q, q = w.heap.size := ⟨_, rfl⟩
  generalize hw0 : w.alloc (.cells #[.slice ab b.length cb, .int .i64 chips, .slice av row.length cv, .int .i64 at', u8v c] 76) = w0 at hal hQ
  have HW := Lib.hid hw0
  have HRB := Lib.hid hb
  clear hw0 hb
  go_enter Try.func7, Try.ntmps7
  go_wp2_with fail
  rw [HW.out, ← hq]
  rw [← hq] at hQ
  have s0 := cells_at hQ 0 _ rfl
  have s1 := cells_at hQ 1 _ rfl
  have s2 := cells_at hQ 2 _ rfl
  have s3 := cells_at hQ 3 _ rfl
  have s4 := cells_at hQ 4 _ rfl
  have hlq := heap_lt hQ
  clear hq HW hQ
  (refine wp_region_mix [0, 1, 2, 3, 4, 5, 6, 7, 8, 9, 10, 11, 12, 13, 14] [(true, true), (true, false), (true, true), (true, false), (true, true), (true, false), (true, true), (true, false), (true, true), (true, false), (true, true), (true, true), (true, true), (true, true), (true, true)] [0, 1, 0, 4, 0, 16, 0, 64, 0, 256, 3, 1039, 3135, 7423, 16383] _ (by kernel_rfl) (by kernel_rfl) (rfl : _ = _) ?_; simp only [pickL, List.map_cons, List.map_nil, List.getD_cons_succ, List.getD_cons_zero])
  (repeat (first | (refine mix_pure (fun hne K hK => ?_); go_simp; refine hK _ ?_; clear hK K hne) | (refine mix_load ?_ (fun K hK => ?_); (focus (first | rfl | (go_simp; done))); go_simp; refine hK _ ?_; clear hK K) | (refine mix_skip ?_ (fun K hK => ?_); (focus (first | rfl | (go_simp; done))); go_simp; refine hK _ ?_; clear hK K)))
  refine mix_done ?_
  clear s0 s1 s2 s3 s4 hlq
  have hB1 := hal.drew
  clear hal
  generalize w0.drew = w1 at hB1 ⊢
  by_cases hbl : 3000 < b.length
  · go_wp2_with fail
    refine (begun_calls w1).mono ?_
    rintro e w2 ⟨rfl, hb2⟩
    have hB2 := hB1.trans (hb2.mono hB1.size)
    go_wp2_with fail
    refine (begun_calls w2).mono ?_
    rintro e w3 ⟨rfl, hb3⟩
    have HX := Lib.hid (HF.out _ (hB2.trans (hb3.mono hB2.size)))
    go_wp2_with fail
    exact HX.out
  · by_cases hrl : 30 < row.length
    · go_wp2_with fail
      refine (begun_calls w1).mono ?_
      rintro e w2 ⟨rfl, hb2⟩
      have hB2 := hB1.trans (hb2.mono hB1.size)
      go_wp2_with fail
      refine (begun_calls w2).mono ?_
      rintro e w3 ⟨rfl, hb3⟩
      have HX := Lib.hid (HF.out _ (hB2.trans (hb3.mono hB2.size)))
      go_wp2_with fail
      exact HX.out
    · go_wp2_with fail
      refine (begun_calls w1).mono ?_
      rintro e w2 ⟨rfl, hb2⟩
      have hB2 := hB1.trans (hb2.mono hB1.size)
      have hld := nload_calls w2 (.slice ab b.length cb) b (HRB.out.below hB2) (by omega)
      have HLD := Lib.hid hld
      clear hB1 hb2 hld
      go_wp2_with fail
      refine HLD.out.mono ?_
      rintro e w3 ⟨hb3, hcase⟩
      have hB3 := hB2.trans (hb3.mono hB2.size)
      have hcase2 : ∃ (pa : Option Addr) (en : Nat), e = .returned (.tuple #[.pointer pa, .int .i64 en]) ∧ (en ≠ 0 ∨ en = 0 ∧ ∃ L M, pa = some ⟨L.p, 0, none⟩ ∧ NdAt true w3 L M ∧ dumpB M = b) := by
        rcases hcase with ⟨L, M, rfl, hN, -, hd, -⟩ | ⟨-, en, hen, rfl⟩
        · exact ⟨_, 0, rfl, .inr ⟨rfl, L, M, rfl, hN, hd⟩⟩
        · exact ⟨none, en, rfl, .inl hen⟩
      obtain ⟨pa, en, rfl, hcase3⟩ := hcase2
      have HC := Lib.hid hcase3
      clear hcase hcase3 hb3 hB2 HLD
      go_upto_region 5 with (fail)
      go_cut [54] (fun s54 wx => s54 = .bool false ∧ Below w3.heap.size w3 wx)
      case first =>
        rcases HC.out with hen | ⟨rfl, L, M, rfl, hN, hd⟩
        · have hen0 : ((en : Int) == 0) = false := by simp; omega
          clear HC
          go_wp2_with fail
          go_meet
          case rel => exact ⟨rfl, Below.refl _ _⟩
        · have hnd := ndump_calls hN
          have HD := Lib.hid (⟨hnd, hd⟩ : _ ∧ _)
          clear hnd hN hd HC
          go_wp2_with fail
          refine HD.out.1.mono ?_
          rintro e w4 ⟨x4, rfl, hx4, hb4⟩
          have hs := rsame_calls x4 (.slice ab b.length cb) (dumpB M) b w4 (RV.own hx4) (HRB.out.below (hB3.trans (hb4.mono hB3.size)))
          rw [decide_eq_true HD.out.2] at hs
          have HS := Lib.hid hs
          have HB4 := Lib.hid hb4
          clear hs hx4 hb4 HD
          go_wp2_with fail
          refine HS.out.mono ?_
          rintro e w5 ⟨rfl, rfl⟩
          go_wp2_with fail
          go_meet
          case rel => exact ⟨rfl, HB4.out⟩
      case rest =>
        obtain ⟨rfl, hbx⟩ := hcut
        have hB2 := hB3.trans (hbx.mono hB3.size)
        clear hbx hB3 HC
        generalize wc = w2 at hB2 ⊢
        go_wp2_with fail
        obtain ⟨k, hk, -, -, hshape⟩ := shape_calls chips w2
        refine hshape.mono ?_
        rintro e w3 ⟨rfl, hb3⟩
        have hB3 := hB2.trans (hb3.mono hB2.size)
        clear hshape hB2
        have hgk : geoOk k 16 4 256 := by unfold geoOk; omega
        have hnew := new_calls k 16 4 256 (.slice none 0 0) [] none 0 [] w3 (RPair.nil w3) (by simp) ⟨Nat.le_refl _, by simp [maxLen], fun _ => rfl, .inl rfl⟩ (by simp) (fun x hx => by cases hx)
        have HNW := Lib.hid hnew
        clear hnew
        go_wp2_with fail
        refine HNW.out.mono ?_
        rintro e w4 hen
        obtain ⟨L, rfl, hN4, ht4, hb4⟩ := hen.1 ⟨hgk, by simp, fun x hx => by cases hx⟩
        have hB4 := hB3.trans (hb4.mono hB3.size)
        have hs34 := hb4.size
        have H4 := Lib.hid (⟨hN4, ht4, hB4, hs34, hgk, hB3.size⟩ : _ ∧ _ ∧ _ ∧ _ ∧ _ ∧ _)
        clear hen hN4 ht4 hB4 hs34 hb4 hB3 hb3 hgk HNW
        go_wp2_with fail
        obtain ⟨k2, hk2, -, -, hshape2⟩ := shape_calls chips w4
        refine hshape2.mono ?_
        rintro e w5 ⟨rfl, hb5⟩
        clear hshape2
        have hfd : ∀ w, (Instr.field 29 (.agg #[.int .i64 k2, .int .i64 16, .int .i64 4, .int .i64 256]) 0).run Try.prog w = .ok (.int .i64 k2) w := fun _ => by kernel_rfl
        go_wp2_with fail
        clear hfd
        have hgk2 : geoOk k2 16 4 256 := by unfold geoOk; omega
        have hrn := rnew_calls k2 16 4 256 (.slice none 0 0) [] none 0 [] w5 (RPair.nil w5) (by simp) ⟨Nat.le_refl _, by simp [maxLen], fun _ => rfl, .inl rfl⟩ hgk2 (by simp) (fun x hx => by cases hx) (fun x hx => by cases hx)
        refine hrn.mono ?_
        rintro e w6 ⟨Lm, rfl, hM, hLm, hb6, -⟩
        obtain ⟨hN4, ht4, hB4, hs34, hgk, hw3⟩ := H4.out
        obtain ⟨Lm', hmp, hT⟩ := two_made (z := w.heap.size) (hN4.below hb5) ht4 hM hLm hb6 (fun x h => absurd rfl h) hw3 (Nat.le_trans hs34 hb5.size)
        have hB6 := (hB4.trans (hb5.mono hB4.size)).trans (hb6.mono (Nat.le_trans hB4.size hb5.size))
        have hL0 : ∃ La' Lm'' A B, La'.p = L.p ∧ Lm''.p = Lm.p ∧ Two w.heap.size w6 La' Lm'' A B ∧ Sound A 0 ∧ B.ops ≤ 0 ∧ Below w.heap.size w w6 :=
          ⟨L, Lm', _, _, rfl, hmp, hT, Sound.fresh hgk, Nat.le_refl _, hB6⟩
        clear hN4 ht4 hB4 hs34 hgk hw3 hT hB6 hM hLm hb6 hmp hrn H4 hb5 hgk2
        generalize L.p = pa at hL0 ⊢
        generalize Lm.p = pm at hL0 ⊢
        go_wp2_with fail
        go_loopw [13] (fun i wr => ∃ j : Nat, j ≤ row.length ∧ i = .int .i64 j ∧ ∃ La' Lm'' A B, La'.p = pa ∧ Lm''.p = pm ∧ Two w.heap.size wr La' Lm'' A B ∧ Sound A j ∧ B.ops ≤ j ∧ Below w.heap.size w wr) (fun i _ => row.length - (intOf i).toNat)
        case atStart => exact ⟨0, Nat.zero_le _, rfl, hL0⟩
        case round =>
          clear hL0
          obtain ⟨j, hj, rfl, La', Lm', A, B, rfl, rfl, hT, hS, hBo, hbel⟩ := hrel
          by_cases hlt : j < row.length
          · obtain ⟨a2, cap2, e2, -, -, hx⟩ := HV.out.below hbel
            obtain ⟨bb, bo, rfl, hy⟩ := hx.resolve_left (fun e => by rw [e] at hlt; simp at hlt)
            simp only [Value.slice.injEq] at e2
            obtain ⟨rfl, -, rfl⟩ := e2
            obtain ⟨y0, y1, y2, y3, y4, y5⟩ := hy j hlt
            have hbb := cell_lt y0
            have hxok := HI.out _ (List.getElem_mem hlt)
            generalize row[j] = x at y0 y1 y2 y3 y4 y5 hxok
            have hdone := done_calls hT x hxok (by have := hS.ops; omega) (by omega)
            have hcnt : (B.done x).ops ≤ j + 1 := Nat.le_trans (done_count B x) (by omega)
            have HH := Lib.hid (⟨hdone, hT, hbel, hlt, hS.done x, hcnt⟩ : _ ∧ _ ∧ _ ∧ _ ∧ _ ∧ _)
            have hlt' : (j : Int) < (row.length : Int) := by omega
            clear hdone hT hbel hBo hxok hy hx hS hcnt
            obtain ⟨xk, xc, xb, xp, xd, xs'⟩ := x
            simp only at y0 y1 y2 y3 y4 y5
            go_wp2_with fail
            refine HH.out.1.mono ?_
            rintro e w9 ⟨r9, La2, Lm2, rfl, -, hpa, hpm, hT2, hO2, -⟩
            obtain ⟨-, hT, hbel, hlt, hS2, hcnt⟩ := HH.out
            generalize Nd.done A ⟨xk, xc, xb, xp, xd, xs'⟩ = A2 at hT2 hS2
            generalize Nd.done B ⟨xk, xc, xb, xp, xd, xs'⟩ = B2 at hT2 hcnt
            have hbel2 := hbel.trans (hO2.below hbel.size (fun y hy h => by have := hT.lo y h; omega))
            have HX := Lib.hid (⟨hpa, hpm, hT2, hS2, hcnt, hbel2, hlt⟩ : _ ∧ _ ∧ _ ∧ _ ∧ _ ∧ _ ∧ _)
            clear hpa hpm hT2 hS2 hcnt hbel2 hO2 hT hbel HH
            go_wp2_with fail
            go_roundw
            case rel => exact ⟨j + 1, HX.out.2.2.2.2.2.2, by go_num, La2, Lm2, A2, B2, HX.out.1, HX.out.2.1, HX.out.2.2.1, HX.out.2.2.2.1, HX.out.2.2.2.2.1, HX.out.2.2.2.2.2.1⟩
            case measure => have := HX.out.2.2.2.2.2.2; simp [intOf]; omega
          · generalize wr = w6 at hT hbel ⊢
            have hch := hS.chips (by omega)
            have hnd := ndump_calls hT.a
            have HND := Lib.hid (⟨hnd, hT, hbel, hch⟩ : _ ∧ _ ∧ _ ∧ _)
            clear hnd hT hbel hch hS hBo
            go_wp2_with fail
            refine HND.out.1.mono ?_
            rintro e w7 ⟨x7, rfl, hx7, hb7⟩
            obtain ⟨-, hT, hbel, hch⟩ := HND.out
            have hlen : (dumpB A).length ≤ 100000000 := by unfold dumpB; rw [List.length_append, leAll_length]; have := bodyB_le hT.a.ok; simp; omega
            have hpos : 0 < (dumpB A).length := by unfold dumpB; rw [List.length_append, leAll_length]; simp
            rcases hx7.2 with ⟨_, h0⟩ | ⟨g, cap, cur, rfl, hgb, hgg, hnc, hcm, hcs, htk⟩
            · omega
            obtain ⟨dl, hdl⟩ : ∃ dl, dl = (dumpB A).length := ⟨_, rfl⟩
            obtain ⟨i, hi, hpick⟩ := pick_eq at' dl (by omega) (by omega)
            have HD := Lib.hid (⟨hx7, hgg, hdl, hT, hbel, hb7, hch, hlen⟩ : _ ∧ _ ∧ _ ∧ _ ∧ _ ∧ _ ∧ _ ∧ _)
            rw [← hdl] at hlen hpos ⊢
            clear hx7 hgg hdl hT hbel hb7 hch hcs htk HND
            go_upto_region 17 with (fail)
            rw [hpick]
            obtain ⟨hx7, hgg, hdl, hT, hbel, hb7, hch, hlen'⟩ := HD.out
            obtain ⟨was, hwas⟩ : ∃ u, (dumpB A)[i]? = some u := ⟨_, List.getElem?_eq_getElem (by omega)⟩
            have hcell := hx7.cells (g := g) rfl i (u8v was) (by rw [List.getElem?_map, hwas]; rfl)
            rw [add_plain, Nat.zero_add] at hcell
            have hfz := froz_at hgg i
            have hlg := heap_lt hgg
            rw [← hdl] at hx7
            have hset := own_setByte hx7 hdl hi c
            have hBx : Below w6.heap.size w6 (w7.setCell ⟨g, i, none⟩ (u8v c)) := hb7.setCell (by exact hgb) (u8v c)
            have hT8 := hT.below hBx
            have hbel8 := hbel.trans (hBx.mono hbel.size)
            have hld := nload_calls _ _ _ hset (by rw [List.length_set]; exact hlen')
            have hi' : (i : Int) < (dl : Int) := by omega
            have HLD := Lib.hid (⟨hld, hT8, hbel8, hch, hwas, hdl⟩ : _ ∧ _ ∧ _ ∧ _ ∧ _ ∧ _)
            clear hx7 hgg hT hbel hb7 hch hlen' hwas hset hBx hT8 hbel8 hld HD hpick hdl HAT
            go_upto_region 19 with (fail)
            generalize w7.setCell ⟨g, i, none⟩ (u8v c) = w8 at HLD ⊢
            clear hcell hfz hlg
            go_wp2_with fail
            refine HLD.out.1.mono ?_
            rintro e w9 ⟨hb9, hcase⟩
            obtain ⟨-, hT8, hbel8, hch, hwas, hdl⟩ := HLD.out
            by_cases hcw : c = was
            · have hl : (dumpB A).set i c = dumpB A := by
                obtain ⟨h1, h2⟩ := List.getElem?_eq_some_iff.mp hwas
                rw [hcw, ← h2]; exact List.set_getElem_self _
              rw [hl] at hcase
              rcases hcase with ⟨Ly, Y, rfl, hY, -, hdy, -⟩ | ⟨hno, -⟩
              rotate_left
              · exact absurd rfl (hno A hch)
              · have hs := nsame_calls (hT8.a.below hb9) hY
                rw [decide_eq_true hdy.symm] at hs
                have HS := Lib.hid hs
                have HB := Lib.hid (hbel8.trans (hb9.mono hbel8.size))
                clear hs hY hdy hT8 hbel8 hb9 hch hwas hl hdl HLD
                subst hcw
                go_wp2_with fail
                refine HS.out.mono ?_
                rintro e w10 ⟨rfl, hb10⟩
                have HX := Lib.hid (HF.out _ (HB.out.trans (hb10.mono HB.out.size)))
                clear hb10 HB HS
                go_wp2_with fail
                exact HX.out
            · rcases hcase with ⟨Ly, Y, rfl, hY, -, hdy, -⟩ | ⟨-, en2, hen2, rfl⟩
              · obtain ⟨h1, h2⟩ := List.getElem?_eq_some_iff.mp hwas
                exact absurd ((dump_turn A Y i c h1 hdy).trans h2) hcw
              · have e1 : ((c.toNat : Int) == (was.toNat : Int)) = false := by
                  simp only [beq_eq_false_iff_ne]
                  intro h
                  exact hcw (UInt8.toNat_inj.mp (by omega))
                have e2 : ((en2 : Int) != 0) = true := by simp; omega
                have HX := Lib.hid (HF.out _ (hbel8.trans (hb9.mono hbel8.size)))
                clear hT8 hbel8 hb9 hch hwas hdl HLD hcw
                go_wp2_with fail
                exact HX.out

set_option maxRecDepth 100000 in
theorem walk {H : Type} (enc : TypeId × Value → H) (W : World) (base : Nat) (v0 : Value) (d0 : DataW H) (p0 : List MemPlace)
    (hv0 : Value.okWide Try.prog W .any base 76 v0) (h0 : DataW.Trod enc Try.prog W 0 (fun _ => true) true 76 v0 d0 p0)
    (_hsz : (DataW.weightsEach Try.prog [76] [d0]).all (· ≤ reachBytes) = true) :
    Calls Try.prog 7 #[v0] W fun e W' => e = .returned (.bool true) ∧ Below W.heap.size W W' := by
  obtain ⟨vb, b, chips, r, os, at', c, rfl, h1, h2, h3, h4⟩ := open_bytes h0 hv0
  exact law vb b chips r os at' c W h1 h2 h3 h4
end Go.Proofs.Ytphnjiokihbhnaa.lawNandBytes
