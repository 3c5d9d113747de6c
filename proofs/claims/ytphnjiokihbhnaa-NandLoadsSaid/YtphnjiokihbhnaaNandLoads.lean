/- NandLoads: the walk. -/
--only r2
import Derived.Test.YtphnjiokihbhnaaTwoProg
import Derived.Test.YtphnjiokihbhnaaSoundLaw
import Derived.Test.YtphnjiokihbhnaaOpenLoads
import Derived.Test.YtphnjiokihbhnaaTwoMade
import Derived.Test.YtphnjiokihbhnaaEvents
import Derived.Test.YtphnjiokihbhnaaNandGets
import Derived.Test.YtphnjiokihbhnaaNandSame
import Derived.Test.YtphnjiokihbhnaaNandCopy
import Derived.Test.YtphnjiokihbhnaaNandLoad2
import Derived.Test.YtphnjiokihbhnaaRefNew
namespace Go.Proofs.Ytphnjiokihbhnaa.lawNandLoads
set_option linter.unusedVariables false
set_option linter.unusedSimpArgs false
open Go.RowKit Go.ChangeShapes Go.WideShapes

theorem copy_dump (M : Nd) : dumpB M.copy = dumpB M := rfl
/-- chips and bytes that what turns does not touch -/
structure Beside (La Lx : NdLay) (A X : Nd) (bv : Value) (l : List UInt8) (T : Nat → Prop) (w : World) : Prop where
  a : NdAt true w La A
  x : NdAt true w Lx X
  b : RB w bv l
  ta : ∀ y, T y → La.tag y = .none
  tx : ∀ y, T y → Lx.tag y = .none
theorem Beside.step {La Lx : NdLay} {A X : Nd} {bv : Value} {l : List UInt8} {T S : Nat → Prop} {w w' : World} (h : Beside La Lx A X bv l T w) (hO : Only S w w') (hS : ∀ y, S y → T y) (hn : ∀ y, y < w.heap.size → S y → NoByte w y) : Beside La Lx A X bv l T w' :=
  ⟨h.a.frame hO (fun y _ hy => h.ta y (hS y hy)) hn, h.x.frame hO (fun y _ hy => h.tx y (hS y hy)) hn, h.b.only hO hn, h.ta, h.tx⟩
theorem Beside.below {La Lx : NdLay} {A X : Nd} {bv : Value} {l : List UInt8} {T : Nat → Prop} {w w' : World} (h : Beside La Lx A X bv l T w) (hb : Below w.heap.size w w') : Beside La Lx A X bv l T w' :=
  ⟨h.a.below hb, h.x.below hb, h.b.below hb, h.ta, h.tx⟩

set_option maxRecDepth 100000 in
set_option maxHeartbeats 6000000 in
theorem law (chips : Int) (ea : Option Addr) (ec : Nat) (xs : List Ev) (r r2 : Value) (row more : List POp) (w : World) (he : REv w ea ec xs (fun _ => True)) (hxi : ∀ x ∈ xs, I64 x.op ∧ I64 x.kind ∧ I64 x.chip) (hv : ROps w r row) (hI : ∀ x ∈ row, x.Ok) (hv2 : ROps w r2 more) (hI2 : ∀ x ∈ more, x.Ok) :
    Calls Try.prog 8 #[.agg #[.int .i64 chips, .slice ea xs.length ec, r, r2]] w (IsTrue w) := by
  obtain ⟨av, cv, rfl, hlc, hmc, hrow⟩ := id hv
  obtain ⟨ab, cb, rfl, hlb, hmb, hrow2⟩ := id hv2
  unfold maxLen at hmc hmb
  have hlx := he.1
  have hmx := he.2.1
  unfold maxLen at hmx
  clear hrow hrow2
  have hfin : ∀ w', Below w.heap.size w w' → IsTrue w (.returned (.bool true)) w' := fun w' h => ⟨rfl, h⟩
  generalize IsTrue w = Post at hfin ⊢
  have HF := Lib.hid hfin
  have HI := Lib.hid hI
  have HI2 := Lib.hid hI2
  have HXI := Lib.hid hxi
  have HV := Lib.hid hv
  have HV2 := Lib.hid hv2
  clear hfin hI hxi hv hv2 hI2
  have hal := (Below.refl w.heap.size w).alloc (Nat.le_refl _) (.cells #[.int .i64 chips, .slice ea xs.length ec, .slice av row.length cv, .slice ab more.length cb] 81)
  have hQ : (w.alloc (.cells #[.int .i64 chips, .slice ea xs.length ec, .slice av row.length cv, .slice ab more.length cb] 81)).heap[w.heap.size]? = some (.cells #[.int .i64 chips, .slice ea xs.length ec, .slice av row.length cv, .slice ab more.length cb] 81 (0, 0)) := heap_is rfl
  obtain ⟨q, hq⟩ : ∃ q, q = w.heap.size := ⟨_, rfl⟩
  generalize hw0 : w.alloc (.cells #[.int .i64 chips, .slice ea xs.length ec, .slice av row.length cv, .slice ab more.length cb] 81) = w0 at hal hQ
  have HW := Lib.hid hw0
  clear hw0
  have hev0 := events_calls ea ec xs w0.drew (he.below hal.drew)
  have HE := Lib.hid he
  have HEV := Lib.hid hev0
  clear he hev0
  go_enter Try.func8, Try.ntmps8
  go_wp2_with fail
  rw [HW.out, ← hq]
  rw [← hq] at hQ
  have s0 := cells_at hQ 0 _ rfl
  have s1 := cells_at hQ 1 _ rfl
  have s2 := cells_at hQ 2 _ rfl
  have s3 := cells_at hQ 3 _ rfl
  have hlq := heap_lt hQ
  clear hq HW hQ
  (refine wp_region_mix [0, 1, 2, 3, 4, 5, 6, 7, 8, 9, 10, 11] [(true, true), (true, false), (true, true), (true, false), (true, true), (true, false), (true, true), (true, false), (true, true), (true, true), (true, true), (true, true)] [0, 1, 0, 4, 0, 16, 0, 64, 3, 271, 831, 2047] _ (by kernel_rfl) (by kernel_rfl) (rfl : _ = _) ?_; simp only [pickL, List.map_cons, List.map_nil, List.getD_cons_succ, List.getD_cons_zero])
  (repeat (first | (refine mix_pure (fun hne K hK => ?_); go_simp; refine hK _ ?_; clear hK K hne) | (refine mix_load ?_ (fun K hK => ?_); (focus (first | rfl | (go_simp; done))); go_simp; refine hK _ ?_; clear hK K) | (refine mix_skip ?_ (fun K hK => ?_); (focus (first | rfl | (go_simp; done))); go_simp; refine hK _ ?_; clear hK K)))
  refine mix_done ?_
  clear s0 s1 s2 s3 hlq
  go_wp2_with fail
  refine HEV.out.mono ?_
  rintro e w1 ⟨hb1, hcase⟩
  have hB1 := hal.drew.trans (hb1.mono hal.size)
  clear hb1 hal HEV
  rcases hcase with ⟨hsm, oa, oc, rfl, hout⟩ | ⟨hsm, rfl⟩
  rotate_left
  · go_wp2_with fail
    refine (begun_calls w1).mono ?_
    rintro e w2 ⟨rfl, hb2⟩
    have hB2 := hB1.trans (hb2.mono hB1.size)
    go_wp2_with fail
    refine (begun_calls w2).mono ?_
    rintro e w3 ⟨rfl, hb3⟩
    have HX := Lib.hid (HF.out _ (hB2.trans (hb3.mono hB2.size)))
    go_wp2_with fail
    exact HX.out
  · have HSM := Lib.hid hsm
    clear hsm hout
    by_cases hrl : 80 < row.length
    · go_wp2_with fail
      refine (begun_calls w1).mono ?_
      rintro e w2 ⟨rfl, hb2⟩
      have hB2 := hB1.trans (hb2.mono hB1.size)
      go_wp2_with fail
      refine (begun_calls w2).mono ?_
      rintro e w3 ⟨rfl, hb3⟩
      have HX := Lib.hid (HF.out _ (hB2.trans (hb3.mono hB2.size)))
      go_wp2_with fail
      exact HX.out
    · by_cases hml : 20 < more.length
      · go_wp2_with fail
        refine (begun_calls w1).mono ?_
        rintro e w2 ⟨rfl, hb2⟩
        have hB2 := hB1.trans (hb2.mono hB1.size)
        go_wp2_with fail
        refine (begun_calls w2).mono ?_
        rintro e w3 ⟨rfl, hb3⟩
        have HX := Lib.hid (HF.out _ (hB2.trans (hb3.mono hB2.size)))
        go_wp2_with fail
        exact HX.out
      · go_wp2_with fail
        refine (begun_calls w1).mono ?_
        rintro e w2 ⟨rfl, hb2⟩
        have hB2 := hB1.trans (hb2.mono hB1.size)
        clear hB1 hb2
        go_wp2_with fail
        obtain ⟨k, hk, -, -, hshape⟩ := shape_calls chips w2
        refine hshape.mono ?_
        rintro e w3 ⟨rfl, hb3⟩
        have hB3 := hB2.trans (hb3.mono hB2.size)
        clear hshape hB2
        have hok : evsOk xs := fun x hx => ⟨by have := HSM.out.2 x hx; omega, HXI.out x hx⟩
        have hgk : geoOk k 16 4 256 := by unfold geoOk; omega
        have hnew := new_calls k 16 4 256 (.slice none 0 0) [] ea ec xs w3 (RPair.nil w3) (by simp) (HE.out.below hB3) (by have := HSM.out.1; omega) hok
        have HNW := Lib.hid hnew
        clear hnew
        go_wp2_with fail
        refine HNW.out.mono ?_
        rintro e w4 hen
        obtain ⟨L, rfl, hN4, ht4, hb4⟩ := hen.1 ⟨hgk, by have := HSM.out.1; omega, fun x hx => by cases hx⟩
        have hB4 := hB3.trans (hb4.mono hB3.size)
        have hs34 := hb4.size
        have H4 := Lib.hid (⟨hN4, ht4, hB4, hs34, hgk, hB3.size⟩ : _ ∧ _ ∧ _ ∧ _ ∧ _ ∧ _)
        clear hen hN4 ht4 hB4 hs34 hb4 hB3 hb3 hok hgk HNW
        go_wp2_with fail
        obtain ⟨k2, hk2, -, -, hshape2⟩ := shape_calls chips w4
        refine hshape2.mono ?_
        rintro e w5 ⟨rfl, hb5⟩
        clear hshape2
        have hfd : ∀ w, (Instr.field 29 (.agg #[.int .i64 k2, .int .i64 16, .int .i64 4, .int .i64 256]) 0).run Try.prog w = .ok (.int .i64 k2) w := fun _ => by kernel_rfl
        go_wp2_with fail
        clear hfd
        have hgk2 : geoOk k2 16 4 256 := by unfold geoOk; omega
        have hrn := rnew_calls k2 16 4 256 (.slice none 0 0) [] none 0 [] w5 (RPair.nil w5) (by simp) ⟨Nat.le_refl _, by simp [maxLen], fun _ => rfl, .inl rfl⟩ hgk2 (by simp) (fun x hx => by cases hx) (fun x hx => by cases hx)
        refine hrn.mono ?_
        rintro e w6 ⟨Lm, rfl, hM, hLm, hb6, -⟩
        obtain ⟨hN4, ht4, hB4, hs34, hgk, hw3⟩ := H4.out
        obtain ⟨Lm', hmp, hT⟩ := two_made (z := w.heap.size) (hN4.below hb5) ht4 hM hLm hb6 (fun x h => absurd rfl h) hw3 (Nat.le_trans hs34 hb5.size)
        have hB6 := (hB4.trans (hb5.mono hB4.size)).trans (hb6.mono (Nat.le_trans hB4.size hb5.size))
        have hL0 : ∃ La' Lm'' A B, La'.p = L.p ∧ Lm''.p = Lm.p ∧ Two w.heap.size w6 La' Lm'' A B ∧ Sound A 0 ∧ B.ops ≤ 0 ∧ Below w.heap.size w w6 :=
          ⟨L, Lm', _, _, rfl, hmp, hT, Sound.fresh hgk, Nat.le_refl _, hB6⟩
        clear hN4 ht4 hB4 hs34 hgk hw3 hT hB6 hM hLm hb6 hmp hrn H4 hb5 hgk2
        generalize L.p = pa at hL0 ⊢
        generalize Lm.p = pm at hL0 ⊢
        go_wp2_with fail
        go_loopw [13] (fun i wr => ∃ j : Nat, j ≤ row.length ∧ i = .int .i64 j ∧ ∃ La' Lm'' A B, La'.p = pa ∧ Lm''.p = pm ∧ Two w.heap.size wr La' Lm'' A B ∧ Sound A j ∧ B.ops ≤ j ∧ Below w.heap.size w wr) (fun i _ => row.length - (intOf i).toNat)
        case atStart => exact ⟨0, Nat.zero_le _, rfl, hL0⟩
        case round =>
          clear hL0
          obtain ⟨j, hj, rfl, La', Lm', A, B, rfl, rfl, hT, hS, hBo, hbel⟩ := hrel
          by_cases hlt : j < row.length
          · obtain ⟨a2, cap2, e2, -, -, hx⟩ := HV.out.below hbel
            obtain ⟨bb, bo, rfl, hy⟩ := hx.resolve_left (fun e => by rw [e] at hlt; simp at hlt)
            simp only [Value.slice.injEq] at e2
            obtain ⟨rfl, -, rfl⟩ := e2
            obtain ⟨y0, y1, y2, y3, y4, y5⟩ := hy j hlt
            have hbb := cell_lt y0
            have hxok := HI.out _ (List.getElem_mem hlt)
            generalize row[j] = x at y0 y1 y2 y3 y4 y5 hxok
            have hdone := done_calls hT x hxok (by have := hS.ops; omega) (by omega)
            have hcnt : (B.done x).ops ≤ j + 1 := Nat.le_trans (done_count B x) (by omega)
            have HH := Lib.hid (⟨hdone, hT, hbel, hlt, hS.done x, hcnt⟩ : _ ∧ _ ∧ _ ∧ _ ∧ _ ∧ _)
            have hlt' : (j : Int) < (row.length : Int) := by omega
            clear hdone hT hbel hBo hxok hy hx hS hcnt
            obtain ⟨xk, xc, xb, xp, xd, xs'⟩ := x
            simp only at y0 y1 y2 y3 y4 y5
            go_wp2_with fail
            refine HH.out.1.mono ?_
            rintro e w9 ⟨r9, La2, Lm2, rfl, -, hpa, hpm, hT2, hO2, -⟩
            obtain ⟨-, hT, hbel, hlt, hS2, hcnt⟩ := HH.out
            generalize Nd.done A ⟨xk, xc, xb, xp, xd, xs'⟩ = A2 at hT2 hS2
            generalize Nd.done B ⟨xk, xc, xb, xp, xd, xs'⟩ = B2 at hT2 hcnt
            have hbel2 := hbel.trans (hO2.below hbel.size (fun y hy h => by have := hT.lo y h; omega))
            have HX := Lib.hid (⟨hpa, hpm, hT2, hS2, hcnt, hbel2, hlt⟩ : _ ∧ _ ∧ _ ∧ _ ∧ _ ∧ _ ∧ _)
            clear hpa hpm hT2 hS2 hcnt hbel2 hO2 hT hbel HH
            go_wp2_with fail
            go_roundw
            case rel => exact ⟨j + 1, HX.out.2.2.2.2.2.2, by go_num, La2, Lm2, A2, B2, HX.out.1, HX.out.2.1, HX.out.2.2.1, HX.out.2.2.2.1, HX.out.2.2.2.2.1, HX.out.2.2.2.2.2.1⟩
            case measure => have := HX.out.2.2.2.2.2.2; simp [intOf]; omega
          · generalize wr = w6 at hT hbel ⊢
            have hS80 : ∀ c b, A.erases c b ≤ 4294967295 := fun c b => by have := hS.erases c b; omega
            have hch := hS.chips (by omega)
            have hnd := ndump_calls hT.a
            have HND := Lib.hid (⟨hnd, hT, hbel, hch, hS80⟩ : _ ∧ _ ∧ _ ∧ _ ∧ _)
            have hBo20 : B.ops ≤ 80 := by omega
            clear hnd hT hbel hch hS80 hS hBo
            go_wp2_with fail
            refine HND.out.1.mono ?_
            rintro e w7 ⟨x7, rfl, hx7, hb7⟩
            obtain ⟨-, hT, hbel, hch, hS80⟩ := HND.out
            have hRB7 : RB w7 x7 (dumpB A) := RV.own hx7
            have hT7 := hT.below hb7
            have hbel7 := hbel.trans (hb7.mono hbel.size)
            have hs67 := hb7.size
            have hml := hT.m.lt
            have hal := hT.a.lt
            have hld := nload_calls w7 x7 (dumpB A) hRB7 (by unfold dumpB; rw [List.length_append, leAll_length]; have := bodyB_le hT.a.ok; simp; omega)
            have HLD := Lib.hid (⟨hld, hT7, hRB7, hbel7, hs67, hml, hal, hch, hS80⟩ : _ ∧ _ ∧ _ ∧ _ ∧ _ ∧ _ ∧ _ ∧ _ ∧ _)
            clear hld hT7 hRB7 hbel7 hs67 hml hal hch hS80 hT hbel hx7 hb7 HND
            go_wp2_with fail
            refine HLD.out.1.mono ?_
            rintro e w8 ⟨hb8, hcase⟩
            obtain ⟨-, hT7, hRB7, hbel7, hs67, hml, hal, hch, hS80⟩ := HLD.out
            rcases hcase with ⟨Lx, X, rfl, hX8, htx, hdx, hxe, hxo, hxn⟩ | ⟨hno, -⟩
            rotate_left
            · exact absurd rfl (hno A hch)
            · have hT8 := hT7.below hb8
              have hRB8 := hRB7.below hb8
              have hbel8 := hbel7.trans (hb8.mono hbel7.size)
              have hcp := ncopy_calls hT8.a hS80
              have hs78 := hb8.size
              have H8 := Lib.hid (⟨hcp, hT8, hRB8, hbel8, hX8, htx, hdx, hxo, hml, hal, Nat.le_trans hs67 hs78, hs67⟩ : _ ∧ _ ∧ _ ∧ _ ∧ _ ∧ _ ∧ _ ∧ _ ∧ _ ∧ _ ∧ _ ∧ _)
              clear hcp hT8 hRB8 hbel8 hX8 htx hdx hxe hxo hxn hml hal hs67 hs78 hT7 hRB7 hbel7 hch hS80 hb8 HLD
              go_wp2_with fail
              refine H8.out.1.mono ?_
              rintro e w9 ⟨Lc, rfl, hC9, htc, hb9⟩
              obtain ⟨-, hT8, hRB8, hbel8, hX8, htx, hdx, hxo, hml, hal, hs68, hs67⟩ := H8.out
              have hT9 := hT8.below hb9
              have hX9 := hX8.below hb9
              have hRB9 := hRB8.below hb9
              have hbel9 := hbel8.trans (hb9.mono hbel8.size)
              have hxlt := hX8.lt
              have hTc : Two w.heap.size w9 Lc Lm' A.copy B := ⟨hC9, hT9.m, fun x hx => by
                  by_cases e : Lm'.tag x = .none
                  · exact e
                  · have := htc x (NdLay.S_ne hx); have := hml x e; omega, fun x hx => by
                  by_cases e : Lc.tag x = .none
                  · exact e
                  · have := htc x e; have := hml x (NdLay.S_ne hx); omega, fun x hx => by
                  rcases hx with hx | hx
                  · have := htc x (NdLay.S_ne hx); have := hbel8.size; omega
                  · exact hT9.lo x (.inr hx), hbel9.size⟩
              obtain ⟨T, hTT⟩ : ∃ T : Nat → Prop, T = fun y => Lm'.S y ∨ w8.heap.size ≤ y := ⟨_, rfl⟩
              have hbs : Beside La' Lx A X x7 (dumpB A) T w9 := ⟨hT9.a, hX9, hRB9, fun y hy => by
                  rw [hTT] at hy
                  by_cases e : La'.tag y = .none
                  · exact e
                  · rcases hy with hy | hy
                    · exact hT9.ma y hy
                    · have := hal y e; omega, fun y hy => by
                  rw [hTT] at hy
                  by_cases e : Lx.tag y = .none
                  · exact e
                  · rcases hy with hy | hy
                    · have := htx y e; have := hml y (NdLay.S_ne hy); omega
                    · have := hxlt y e; omega⟩
              have hST : ∀ y, Lc.S y ∨ Lm'.S y → T y := fun y hy => by
                rw [hTT]
                exact hy.elim (fun h => .inr (htc y (NdLay.S_ne h))) .inl
              have hTw : ∀ y, w9.heap.size ≤ y → T y := fun y hy => by rw [hTT]; have := hb9.size; exact .inr (by omega)
              have hsame1 := nsame_calls hT9.a hX9
              rw [decide_eq_true hdx.symm] at hsame1
              have H9 := Lib.hid (⟨hTc, hbs, hST, hTw, hbel9, hdx, hxo⟩ : _ ∧ _ ∧ _ ∧ _ ∧ _ ∧ _ ∧ _)
              have HS1 := Lib.hid hsame1
              clear hTc hbs hST hTw hbel9 hdx hxo hsame1 hT9 hX9 hRB9 hT8 hRB8 hbel8 hX8 htx hml hal hs68 hs67 hC9 htc hb9 hxlt hTT H8
              go_wp2_with fail
              refine HS1.out.mono ?_
              rintro e w10 ⟨rfl, hb10⟩
              obtain ⟨hTc, hbs, hST, hTw, hbel9, hdx, hxo⟩ := H9.out
              have hTc10 := hTc.below hb10
              have hbs10 := hbs.below hb10
              have hbel10 := hbel9.trans (hb10.mono hbel9.size)
              have hTw10 : ∀ y, w10.heap.size ≤ y → T y := fun y hy => hTw y (Nat.le_trans hb10.size hy)
              have hsame2 := nsame_calls hbs10.a hTc10.a
              rw [copy_dump, decide_eq_true rfl] at hsame2
              have HS2 := Lib.hid hsame2
              have H10 := Lib.hid (⟨hTc10, hbs10, hST, hTw10, hbel10, hdx, hxo⟩ : _ ∧ _ ∧ _ ∧ _ ∧ _ ∧ _ ∧ _)
              clear hTc hbs hST hTw hbel9 hdx hxo hsame2 hTc10 hbs10 hbel10 hTw10 hb10 HS1 H9
              go_wp2_with fail
              refine HS2.out.mono ?_
              rintro e w11 ⟨rfl, hb11⟩
              obtain ⟨hTc, hbs, hST, hTw, hbel10, hdx, hxo⟩ := H10.out
              have hTc11 := hTc.below hb11
              have hbs11 := hbs.below hb11
              have hbel11 := hbel10.trans (hb11.mono hbel10.size)
              have hTw11 : ∀ y, w11.heap.size ≤ y → T y := fun y hy => hTw y (Nat.le_trans hb11.size hy)
              have ho1 := ops_calls hTc11.a
              have ho2 := off_calls hTc11.a
              have ho3 := off_calls hbs11.a
              have ho4 := off_calls hbs11.x
              rw [show A.copy.ops = 0 from rfl] at ho1
              rw [show A.copy.off = A.off from rfl] at ho2
              rw [hxo] at ho4
              have HOO := Lib.hid (⟨ho1, ho2, ho3, ho4⟩ : _ ∧ _ ∧ _ ∧ _)
              have H11 := Lib.hid (⟨hTc11, hbs11, hST, hTw11, hbel11, hdx⟩ : _ ∧ _ ∧ _ ∧ _ ∧ _ ∧ _)
              clear hTc hbs hST hTw hbel10 hdx hxo ho1 ho2 ho3 ho4 hTc11 hbs11 hbel11 hTw11 hb11 HS2 H10
              go_wp2_with fail
              refine HOO.out.1.mono ?_
              rintro e w12 ⟨rfl, rfl⟩
              go_wp2_with fail
              refine HOO.out.2.1.mono ?_
              rintro e w13 ⟨rfl, rfl⟩
              go_wp2_with fail
              refine HOO.out.2.2.1.mono ?_
              rintro e w14 ⟨rfl, rfl⟩
              go_wp2_with fail
              refine HOO.out.2.2.2.mono ?_
              rintro e w15 ⟨rfl, rfl⟩
              obtain ⟨hTc, hbs, hST, hTw, hbel11, hdx⟩ := H11.out
              have hL2 : ∃ Lc' Lm'' C B', Lc'.p = Lc.p ∧ Lm''.p = Lm'.p ∧ Two w.heap.size w11 Lc' Lm'' C B' ∧ C.ops ≤ 0 ∧ B'.ops ≤ 80 + 0 ∧ Beside La' Lx A X x7 (dumpB A) T w11 ∧ (∀ y, Lc'.S y ∨ Lm''.S y → T y) ∧ (∀ y, w11.heap.size ≤ y → T y) ∧ Below w.heap.size w w11 :=
                ⟨Lc, Lm', _, _, rfl, rfl, hTc, Nat.le_refl _, by omega, hbs, hST, hTw, hbel11⟩
              clear hTc hbs hST hTw hbel11 HOO H11
              generalize Lc.p = pc at hL2 ⊢
              generalize Lm'.p = pm at hL2 ⊢
              have HDX := Lib.hid hdx
              clear hdx
              go_wp2_with fail
              go_loopw [18] (fun i wr => ∃ j : Nat, j ≤ more.length ∧ i = .int .i64 j ∧ ∃ Lc' Lm'' C B', Lc'.p = pc ∧ Lm''.p = pm ∧ Two w.heap.size wr Lc' Lm'' C B' ∧ C.ops ≤ j ∧ B'.ops ≤ 80 + j ∧ Beside La' Lx A X x7 (dumpB A) T wr ∧ (∀ y, Lc'.S y ∨ Lm''.S y → T y) ∧ (∀ y, wr.heap.size ≤ y → T y) ∧ Below w.heap.size w wr) (fun i _ => more.length - (intOf i).toNat)
              case atStart => exact ⟨0, Nat.zero_le _, rfl, hL2⟩
              case round =>
                clear hL2
                obtain ⟨j, hj, rfl, Lc', Lm2, C, B', rfl, rfl, hT, hCo, hBo, hbs, hST, hTw, hbel⟩ := hrel
                by_cases hlt : j < more.length
                · obtain ⟨a2, cap2, e2, -, -, hx⟩ := HV2.out.below hbel
                  obtain ⟨bb, bo, rfl, hy⟩ := hx.resolve_left (fun e => by rw [e] at hlt; simp at hlt)
                  simp only [Value.slice.injEq] at e2
                  obtain ⟨rfl, -, rfl⟩ := e2
                  obtain ⟨y0, y1, y2, y3, y4, y5⟩ := hy j hlt
                  have hbb := cell_lt y0
                  have hxok := HI2.out _ (List.getElem_mem hlt)
                  generalize more[j] = x at y0 y1 y2 y3 y4 y5 hxok
                  have hdone := done_calls hT x hxok (by omega) (by omega)
                  have hcnt : (C.done x).ops ≤ j + 1 := Nat.le_trans (done_count C x) (by omega)
                  have hcnt2 : (B'.done x).ops ≤ 80 + (j + 1) := Nat.le_trans (done_count B' x) (by omega)
                  have HH := Lib.hid (⟨hdone, hT, hbel, hlt, hcnt, hcnt2, hbs, hST, hTw⟩ : _ ∧ _ ∧ _ ∧ _ ∧ _ ∧ _ ∧ _ ∧ _ ∧ _)
                  have hlt' : (j : Int) < (more.length : Int) := by omega
                  clear hdone hT hbel hBo hCo hxok hy hx hcnt hcnt2 hbs hST hTw
                  obtain ⟨xk, xc, xb, xp, xd, xs'⟩ := x
                  simp only at y0 y1 y2 y3 y4 y5
                  go_wp2_with fail
                  refine HH.out.1.mono ?_
                  rintro e w9 ⟨r9, Lc2, Lm3, rfl, -, hpa, hpm, hT2, hO2, hS2⟩
                  obtain ⟨-, hT, hbel, hlt, hcnt, hcnt2, hbs, hST, hTw⟩ := HH.out
                  generalize Nd.done C ⟨xk, xc, xb, xp, xd, xs'⟩ = C2 at hT2 hcnt
                  generalize Nd.done B' ⟨xk, xc, xb, xp, xd, xs'⟩ = B2 at hT2 hcnt2
                  have hbel2 := hbel.trans (hO2.below hbel.size (fun y hy h => by have := hT.lo y h; omega))
                  have hbs2 := hbs.step hO2 hST (fun y _ hy => hT.nb hy)
                  have hST2 : ∀ y, Lc2.S y ∨ Lm3.S y → T y := fun y hy => (hS2 y hy).elim (hST y) (hTw y)
                  have hTw2 : ∀ y, w9.heap.size ≤ y → T y := fun y hy => hTw y (Nat.le_trans hO2.size hy)
                  have HX := Lib.hid (⟨hpa, hpm, hT2, hcnt, hcnt2, hbs2, hST2, hTw2, hbel2⟩ : _ ∧ _ ∧ _ ∧ _ ∧ _ ∧ _ ∧ _ ∧ _ ∧ _)
                  have HLT := Lib.hid hlt
                  clear hpa hpm hT2 hcnt hcnt2 hbel2 hO2 hT hbel hbs hST hTw hbs2 hST2 hTw2 HH hS2
                  go_wp2_with fail
                  go_roundw
                  case rel => exact ⟨j + 1, HLT.out, by go_num, Lc2, Lm3, C2, B2, HX.out⟩
                  case measure => have := HLT.out; simp [intOf]; omega
                · generalize wr = wz at hbs hbel ⊢
                  have hnd := ndump_calls hbs.a
                  have HND := Lib.hid (⟨hnd, hbs, hbel⟩ : _ ∧ _ ∧ _)
                  clear hnd hbs hbel hT hCo hBo hST hTw
                  go_wp2_with fail
                  refine HND.out.1.mono ?_
                  rintro e w12 ⟨x12, rfl, hx12, hb12⟩
                  obtain ⟨-, hbs, hbel⟩ := HND.out
                  have hbs12 := hbs.below hb12
                  have hs := rsame_calls x12 x7 (dumpB A) (dumpB A) w12 (RV.own hx12) hbs12.b
                  rw [decide_eq_true rfl] at hs
                  have hnd := ndump_calls hbs12.x
                  have HS := Lib.hid hs
                  have HND2 := Lib.hid (⟨hnd, hbs12, hbel.trans (hb12.mono hbel.size)⟩ : _ ∧ _ ∧ _)
                  clear hs hbs hbel hbs12 hnd hx12 hb12 HND
                  go_wp2_with fail
                  refine HS.out.mono ?_
                  rintro e w13 ⟨rfl, rfl⟩
                  go_wp2_with fail
                  refine HND2.out.1.mono ?_
                  rintro e w14 ⟨x14, rfl, hx14, hb14⟩
                  obtain ⟨-, hbs, hbel⟩ := HND2.out
                  have hbs14 := hbs.below hb14
                  have hs := rsame_calls x14 x7 (dumpB X) (dumpB A) w14 (RV.own hx14) hbs14.b
                  rw [decide_eq_true HDX.out] at hs
                  have HS2 := Lib.hid hs
                  have HX := Lib.hid (HF.out _ (hbel.trans (hb14.mono hbel.size)))
                  clear hs hbs hbel hbs14 hx14 hb14 HND2
                  go_wp2_with fail
                  refine HS2.out.mono ?_
                  rintro e w15 ⟨rfl, rfl⟩
                  go_wp2_with fail
                  exact HX.out

set_option maxRecDepth 100000 in
theorem walk {H : Type} (enc : TypeId × Value → H) (W : World) (base : Nat) (v0 : Value) (d0 : DataW H) (p0 : List MemPlace)
    (hv0 : Value.okWide Try.prog W .any base 81 v0) (h0 : DataW.Trod enc Try.prog W 0 (fun _ => true) true 81 v0 d0 p0)
    (_hsz : (DataW.weightsEach Try.prog [81] [d0]).all (· ≤ reachBytes) = true) :
    Calls Try.prog 8 #[v0] W fun e W' => e = .returned (.bool true) ∧ Below W.heap.size W W' := by
  obtain ⟨chips, ea, ec, xs, r, r2, os, os2, rfl, h1, h2, h3, h4, h5, h6⟩ := open_loads h0 hv0
  exact law chips ea ec xs r r2 os os2 W h1 h2 h3 h4 h5 h6
end Go.Proofs.Ytphnjiokihbhnaa.lawNandLoads
