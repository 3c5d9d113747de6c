/- nand: chips are loaded. -/
--only r2
import Derived.Test.YtphnjiokihbhnaaLoadInv
import Derived.Test.YtphnjiokihbhnaaNandLaw
namespace Go.Proofs.Ytphnjiokihbhnaa
set_option linter.unusedVariables false
set_option linter.unusedSimpArgs false
open Go.RowKit

/-- what 'load' is to end in -/
def LoadEnds (w : World) (r : Nat) (l : List UInt8) (e : Ending) (w' : World) : Prop :=
  Only (fun x => x = r) w w' ∧
  ((∃ L M, e = .returned (.tuple #[ptrV L.p, .int .i64 0]) ∧ NdAt true w' L M ∧ (∀ x, L.tag x ≠ .none → w.heap.size ≤ x) ∧ bodyB M = l ∧ M.evs = [] ∧ M.off = false ∧ M.ops = 0)
   ∨ (NoBody l ∧ ((∃ en : Nat, en ≠ 0 ∧ e = .returned (.tuple #[.pointer none, .int .i64 en])) ∨ ∃ j, e = shortPanic j)))

set_option maxHeartbeats 1000000 in
theorem rleft2_calls (r : Nat) (v : Value) (l : List UInt8) (k : Nat) (w : World) (h : Rd w r v l k) (hl : l.length ≤ 100000000) : Calls Try.prog 67 #[ptrV r] w fun e w' => e = .returned (.int .i64 ((l.length : Int) - k)) ∧ w' = w.drew := by
  obtain ⟨a, cp, rfl, hlc, hmx⟩ := h.rb.form
  unfold maxLen at hmx
  have c0 := cells_at h.cell 0 _ rfl
  have c1 := cells_at h.cell 1 _ rfl
  have hle := h.le
  have hlr := heap_lt h.cell
  have hli : (k : Int) ≤ (l.length : Int) := by omega
  have hwr : IntKind.i64.wrap ((l.length : Int) - (k : Int)) = (l.length : Int) - (k : Int) := IntWalk.i64_in _ (by omega)
  simp only [List.getElem_toArray, List.getElem_cons_succ, List.getElem_cons_zero] at c0 c1
  go_enter Try.func67, Try.ntmps67
  go_wp2_with fail
  (refine wp_region_mix [0, 1, 2, 3, 4, 5, 6, 7, 8, 9, 10] [(true, true), (true, true), (true, true), (true, false), (true, true), (true, true), (true, true), (true, true), (true, false), (true, true), (true, true)] [0, 1, 3, 7, 15, 0, 32, 96, 224, 511, 1023] _ (by kernel_rfl) (by kernel_rfl) (rfl : _ = _) ?_; simp only [pickL, List.map_cons, List.map_nil, List.getD_cons_succ, List.getD_cons_zero])
  (repeat (first | (refine mix_pure (fun hne K hK => ?_); go_simp; refine hK _ ?_; clear hK K hne) | (refine mix_load ?_ (fun K hK => ?_); (focus (first | rfl | (go_simp; done))); go_simp; refine hK _ ?_; clear hK K) | (refine mix_skip ?_ (fun K hK => ?_); (focus (first | rfl | (go_simp; done))); go_simp; refine hK _ ?_; clear hK K)))
  refine mix_done ?_
  go_wp2_with fail
  go_ret
  refine ⟨?_, rfl⟩
  first | rfl | (rw [show ((l.length - k : Nat) : Int) = (l.length : Int) - k by omega])| (trace_state; rfl)

set_option maxRecDepth 100000 in
set_option maxHeartbeats 6000000 in
theorem lload_calls (w : World) (r : Nat) (v : Value) (l : List UInt8) (hr : Rd w r v l 0) (hl : l.length ≤ 100000000) :
    Calls Try.prog 55 #[ptrV r] w (LoadEnds w r l) := by
  have hno : NoBody l → ∀ w' e, Only (fun x => x = r) w w' → ((∃ en : Nat, en ≠ 0 ∧ e = .returned (.tuple #[.pointer none, .int .i64 en])) ∨ ∃ j, e = shortPanic j) → LoadEnds w r l e w' := fun hn w' e hO he => ⟨hO, .inr ⟨hn, he⟩⟩
  have hyes : ∀ w' L M, Only (fun x => x = r) w w' → NdAt true w' L M → (∀ x, L.tag x ≠ .none → w.heap.size ≤ x) → bodyB M = l → M.evs = [] → M.off = false → M.ops = 0 → LoadEnds w r l (.returned (.tuple #[ptrV L.p, .int .i64 0])) w' := fun w' L M hO h1 h2 h3 h4 h5 h6 => ⟨hO, .inl ⟨L, M, rfl, h1, h2, h3, h4, h5, h6⟩⟩
  generalize LoadEnds w r l = Post at hno hyes ⊢
  have HNO := Lib.hid hno
  have HYES := Lib.hid hyes
  clear hno hyes
  have hhead : ∀ M0, IsChips M0 → bodyB M0 = l → 12 ≤ l.length ∧ leNum ((l.drop 0).take 4) = 1312964935 ∧ M0.mem = leNum ((l.drop 4).take 2) ∧ M0.blk = leNum ((l.drop 6).take 2) ∧ M0.pgs = leNum ((l.drop 8).take 2) ∧ M0.siz = leNum ((l.drop 10).take 2) ∧ l.drop 12 = chipsFrom M0 0 := fun M0 h e => head_left h e
  have HH := Lib.hid hhead
  have hshort : ¬ 12 ≤ l.length → NoBody l := fun h M0 h0 e => h (HH.out M0 h0 e).1
  have HSH := Lib.hid hshort
  clear hhead hshort
  have hrw := heap_lt hr.cell
  go_enter Try.func55, Try.ntmps55
  go_wp2_with fail
  by_cases a0 : 4 ≤ l.length
  rotate_left
  · have hnb := HSH.out (by omega)
    refine (rU32_short r 0 v l w hr (by omega)).mono ?_
    rintro e w9 ⟨rfl, hb9⟩
    have HX := Lib.hid (HNO.out hnb w9 _ ((Only.refl _ w).trans (Only.new hb9 fun _ => False) fun _ _ h => h.elim) (.inr ⟨0, rfl⟩))
    clear hnb
    go_wp2_with fail
    ((try simp only [Exit.inBlock, Exit.then]); exact ⟨rfl, HX.out⟩)
  · refine (rU32_ok r 0 v l w hr (by omega)).mono ?_
    rintro e w1 ⟨rfl, hr1, hO1⟩
    have hw1 := read_word (l := l) (k := 0) (by omega)
    obtain ⟨G, hG⟩ : ∃ G, G = leNum ((l.drop 0).take 4) := ⟨_, rfl⟩
    rw [← hG] at hw1 ⊢
    have HG := Lib.hid hG
    clear hG
    by_cases hmag : G = 1312964935
    rotate_left
    · have hnb : NoBody l := fun M0 h0 e => hmag (by rw [HG.out]; exact (HH.out M0 h0 e).2.1)
      have HX := Lib.hid (HNO.out hnb w1 _ hO1 (.inl ⟨62, by omega, rfl⟩))
      have hm2 : ¬ (G : Int) = 1312964935 := by omega
      clear hnb
      go_wp2_with fail
      exact HX.out
    · subst hmag
      have HW1 := Lib.hid hw1
      clear hw1
      go_wp2_with fail
      by_cases a1 : 4 + 2 ≤ l.length
      rotate_left
      · have hnb := HSH.out (by omega)
        refine (rU16_short r 4 v l w1 hr1 (by omega)).mono ?_
        rintro e w9 ⟨rfl, hb9⟩
        have HX := Lib.hid (HNO.out hnb w9 _ ((hO1).trans (Only.new hb9 fun _ => False) fun _ _ h => h.elim) (.inr ⟨4, rfl⟩))
        clear hnb
        go_wp2_with fail
        ((try simp only [Exit.inBlock, Exit.then]); exact ⟨rfl, HX.out⟩)
      · refine (rU16_ok r 4 v l w1 hr1 (by omega)).mono ?_
        rintro e w2 ⟨rfl, hr2, hOn⟩
        have hO2 := hO1.trans hOn fun _ _ h => h
        have hlt0 : leNum ((l.drop 4).take 2) < 65536 := by
          have := leNum_lt ((l.drop 4).take 2)
          rw [List.length_take, List.length_drop, Nat.min_eq_left (by omega)] at this
          exact this
        obtain ⟨g0, hg0⟩ : ∃ g, g = leNum ((l.drop 4).take 2) := ⟨_, rfl⟩
        rw [← hg0] at hlt0 ⊢
        have HG0 := Lib.hid hg0
        clear hg0 hOn
        go_wp2_with fail
        by_cases a2 : 6 + 2 ≤ l.length
        rotate_left
        · have hnb := HSH.out (by omega)
          refine (rU16_short r 6 v l w2 hr2 (by omega)).mono ?_
          rintro e w9 ⟨rfl, hb9⟩
          have HX := Lib.hid (HNO.out hnb w9 _ ((hO2).trans (Only.new hb9 fun _ => False) fun _ _ h => h.elim) (.inr ⟨6, rfl⟩))
          clear hnb
          go_wp2_with fail
          ((try simp only [Exit.inBlock, Exit.then]); exact ⟨rfl, HX.out⟩)
        · refine (rU16_ok r 6 v l w2 hr2 (by omega)).mono ?_
          rintro e w3 ⟨rfl, hr3, hOn⟩
          have hO3 := hO2.trans hOn fun _ _ h => h
          have hlt1 : leNum ((l.drop 6).take 2) < 65536 := by
            have := leNum_lt ((l.drop 6).take 2)
            rw [List.length_take, List.length_drop, Nat.min_eq_left (by omega)] at this
            exact this
          obtain ⟨g1, hg1⟩ : ∃ g, g = leNum ((l.drop 6).take 2) := ⟨_, rfl⟩
          rw [← hg1] at hlt1 ⊢
          have HG1 := Lib.hid hg1
          clear hg1 hOn
          go_wp2_with fail
          by_cases a3 : 8 + 2 ≤ l.length
          rotate_left
          · have hnb := HSH.out (by omega)
            refine (rU16_short r 8 v l w3 hr3 (by omega)).mono ?_
            rintro e w9 ⟨rfl, hb9⟩
            have HX := Lib.hid (HNO.out hnb w9 _ ((hO3).trans (Only.new hb9 fun _ => False) fun _ _ h => h.elim) (.inr ⟨8, rfl⟩))
            clear hnb
            go_wp2_with fail
            ((try simp only [Exit.inBlock, Exit.then]); exact ⟨rfl, HX.out⟩)
          · refine (rU16_ok r 8 v l w3 hr3 (by omega)).mono ?_
            rintro e w4 ⟨rfl, hr4, hOn⟩
            have hO4 := hO3.trans hOn fun _ _ h => h
            have hlt2 : leNum ((l.drop 8).take 2) < 65536 := by
              have := leNum_lt ((l.drop 8).take 2)
              rw [List.length_take, List.length_drop, Nat.min_eq_left (by omega)] at this
              exact this
            obtain ⟨g2, hg2⟩ : ∃ g, g = leNum ((l.drop 8).take 2) := ⟨_, rfl⟩
            rw [← hg2] at hlt2 ⊢
            have HG2 := Lib.hid hg2
            clear hg2 hOn
            go_wp2_with fail
            by_cases a4 : 10 + 2 ≤ l.length
            rotate_left
            · have hnb := HSH.out (by omega)
              refine (rU16_short r 10 v l w4 hr4 (by omega)).mono ?_
              rintro e w9 ⟨rfl, hb9⟩
              have HX := Lib.hid (HNO.out hnb w9 _ ((hO4).trans (Only.new hb9 fun _ => False) fun _ _ h => h.elim) (.inr ⟨10, rfl⟩))
              clear hnb
              go_wp2_with fail
              ((try simp only [Exit.inBlock, Exit.then]); exact ⟨rfl, HX.out⟩)
            · refine (rU16_ok r 10 v l w4 hr4 (by omega)).mono ?_
              rintro e w5 ⟨rfl, hr5, hOn⟩
              have hO5 := hO4.trans hOn fun _ _ h => h
              have hlt3 : leNum ((l.drop 10).take 2) < 65536 := by
                have := leNum_lt ((l.drop 10).take 2)
                rw [List.length_take, List.length_drop, Nat.min_eq_left (by omega)] at this
                exact this
              obtain ⟨g3, hg3⟩ : ∃ g, g = leNum ((l.drop 10).take 2) := ⟨_, rfl⟩
              rw [← hg3] at hlt3 ⊢
              have HG3 := Lib.hid hg3
              clear hg3 hOn
              go_wp2_with fail
              have hal := (Below.refl w5.heap.size w5).alloc (Nat.le_refl _) (.cells #[.int .i64 g0, .int .i64 g1, .int .i64 g2, .int .i64 g3] 29)
              have hQg : (w5.alloc (.cells #[.int .i64 g0, .int .i64 g1, .int .i64 g2, .int .i64 g3] 29)).heap[w5.heap.size]? = some (.cells #[.int .i64 g0, .int .i64 g1, .int .i64 g2, .int .i64 g3] 29 (0, 0)) := heap_is rfl
              obtain ⟨qg, hqg⟩ : ∃ qg, qg = w5.heap.size := ⟨_, rfl⟩
              rw [← hqg] at hQg ⊢
              have hs5 : (w5.alloc (.cells #[.int .i64 g0, .int .i64 g1, .int .i64 g2, .int .i64 g3] 29)).heap.size = qg + 1 := by rw [hqg]; simp
              generalize w5.alloc (.cells #[.int .i64 g0, .int .i64 g1, .int .i64 g2, .int .i64 g3] 29) = w6 at hal hQg hs5 ⊢
              have hO6 := hO5.trans (Only.new hal fun _ => False) fun _ _ h => h.elim
              have hr6 := hr5.below hal
              have hnew := new_calls g0 g1 g2 g3 (.slice none 0 0) [] none 0 [] w6 (RPair.nil w6) (by simp) ⟨Nat.le_refl _, by simp [maxLen], fun _ => rfl, .inl rfl⟩ (by simp) (fun x hx => by cases hx)
              have hqr : qg ≠ r := by have := hO5.size; omega
              have hwq : w.heap.size ≤ qg := by rw [hqg]; exact hO5.size
              clear hO1 hO2 hO3 hO4 hr1 hr2 hr3 hr4 hr5 hO5 hal hqg
              by_cases hgeo : geoOk g0 g1 g2 g3
              rotate_left
              · have hnb : NoBody l := fun M0 h0 e => by
                  obtain ⟨-, -, e0, e1, e2, e3, -⟩ := HH.out M0 h0 e
                  apply hgeo
                  rw [HG0.out, HG1.out, HG2.out, HG3.out, ← e0, ← e1, ← e2, ← e3]
                  exact h0.geo
                have hn2 := hnew.mono (fun e w' h => (h.2 (fun hh => hgeo hh.1)))
                have HN2 := Lib.hid hn2
                clear hnew hn2
                refine HN2.out.mono ?_
                rintro e w7 ⟨rfl, hb7⟩
                have HX := Lib.hid (HNO.out hnb w7 _ (hO6.trans (Only.new hb7 fun _ => False) fun _ _ h => h.elim) (.inl ⟨34, by omega, rfl⟩))
                clear hnb
                go_wp2_with fail
                exact HX.out
              · have hn2 := hnew.mono (fun e w' h => (h.1 ⟨hgeo, by simp, fun x hx => by cases hx⟩))
                have HN2 := Lib.hid hn2
                obtain ⟨q1, q2, q3, q4, q5, q6, q7, q8, q9⟩ := hgeo
                clear hnew hn2
                refine HN2.out.mono ?_
                rintro e w7 ⟨L0, rfl, hN7, ht7, hb7⟩
                have hleft : LeftC l g0 g1 g2 g3 12 0 := fun M0 h0 e => by
                  obtain ⟨-, -, e0, e1, e2, e3, e4⟩ := HH.out M0 h0 e
                  exact ⟨e0.trans HG0.out.symm, e1.trans HG1.out.symm, e2.trans HG2.out.symm, e3.trans HG3.out.symm, e4⟩
                have htag : ∀ x, x < qg + 1 → L0.tag x = .none := fun x hx => by
                  by_cases e : L0.tag x = .none
                  · exact e
                  · have := ht7 x e; omega
                have htk : l.take 12 = headB (Nd.fresh g0 g1 g2 g3 (badOf []) []) ++ chipsB (Nd.fresh g0 g1 g2 g3 (badOf []) []) 0 := by
                  have r2 : ∀ k, k + 2 ≤ l.length → l.take (k + 2) = l.take k ++ leAll 2 [leNum ((l.drop k).take 2)] := fun k hk => by
                    have hl2 : ((l.drop k).take 2).length = 2 := by simp; omega
                    have h1 := le_leNum ((l.drop k).take 2)
                    rw [hl2] at h1
                    rw [read_some hk]
                    congr 1
                    simp only [leAll, List.flatMap_cons, List.flatMap_nil, List.append_nil]
                    exact h1.symm
                  have e4 := HW1.out.1
                  rw [Nat.zero_add, List.take_zero, List.nil_append] at e4
                  rw [show (12 : Nat) = 10 + 2 from rfl, r2 10 (by omega), show (10 : Nat) = 8 + 2 from rfl, r2 8 (by omega), show (8 : Nat) = 6 + 2 from rfl, r2 6 (by omega), show (6 : Nat) = 4 + 2 from rfl, r2 4 (by omega), e4, ← HG0.out, ← HG1.out, ← HG2.out, ← HG3.out]
                  simp [headB, leAll, chipsB, Nd.fresh]
                have hinv : LCInv w r qg v l g0 g1 g2 g3 0 12 L0 (Nd.fresh g0 g1 g2 g3 (badOf []) []) w7 :=
                  ⟨hN7, ⟨rfl, rfl, rfl, rfl⟩, ⟨rfl, rfl, rfl⟩, fun x hx => by have := ht7 x hx; omega, fun _ _ _ _ => rfl, (hr6.below hb7), htk, hleft, heap_keep hb7 hQg, ⟨htag qg (by omega), htag r (by have := heap_lt hr.cell; omega), hqr⟩, hO6.trans (Only.new hb7 fun _ => False) fun _ _ h => h.elim⟩
                generalize Nd.fresh g0 g1 g2 g3 (badOf []) [] = M0 at hinv
                have hTop := hinv.nd.top
                simp only [topCells, if_true] at hTop
                rw [hinv.sh.1] at hTop
                have t4 := cells_at hTop 4 _ rfl
                simp only [List.getElem_toArray, List.getElem_cons_succ, List.getElem_cons_zero] at t4
                have hlt := heap_lt hTop
                have HV := Lib.hid hinv
                clear hinv hTop htk hleft hN7 ht7 hb7 hr6 hO6 hQg htag HG0 HG1 HG2 HG3 HG HW1 HN2
                go_wp2_with fail
                clear t4 hlt
                generalize hp0 : L0.p = pp at HV ⊢
                go_loopw [40] (fun i wr => ∃ (c k : Nat) (L : NdLay) (M : Nd), c ≤ g0 + 1 ∧ i = .int .i64 c ∧ L.p = pp ∧ LCInv w r qg v l g0 g1 g2 g3 c k L M wr) (fun i _ => g0 + 1 - (intOf i).toNat)
                case atStart => exact ⟨0, _, _, _, Nat.zero_le _, rfl, hp0, HV.out⟩
                case round =>
                  clear hp0 HV
                  generalize wr = wo at hrel ⊢
                  obtain ⟨c, k, L, M, hc, rfl, rfl, hI⟩ := hrel
                  by_cases hlt : c < g0 + 1
                  · have hlt' : (c : Int) < (g0 : Int) + 1 := by omega
                    have hrd := hI.rd
                    by_cases a5 : k + 1 ≤ l.length
                    rotate_left
                    · have hnb := leftC_short hI.left (by omega) (by omega)
                      have hrU := rU8_short r k v l wo hrd (by omega)
                      have hI0 := hI.only
                      have HRU := Lib.hid (⟨hrU, hI0⟩ : _ ∧ _)
                      clear hrU hI hrd hI0
                      go_wp2_with fail
                      refine HRU.out.1.mono ?_
                      rintro e w8 ⟨rfl, hb8⟩
                      have HX := Lib.hid (HNO.out hnb w8 _ (HRU.out.2.trans (Only.new hb8 fun _ => False) fun _ _ h => h.elim) (.inr ⟨k, rfl⟩))
                      clear hnb
                      go_wp2_with fail
                      ((try simp only [Exit.inBlock, Exit.then]); exact ⟨rfl, HX.out⟩)
                    · have hrU := rU8_ok r k v l wo hrd a5
                      obtain ⟨D, hD⟩ : ∃ D, D = leNum ((l.drop k).take 1) := ⟨_, rfl⟩
                      have hD256 := (read_byte (l := l) (k := k) (by omega)).2
                      rw [← hD] at hrU hD256
                      have HI := Lib.hid (⟨hrU, hI, hD, hlt⟩ : _ ∧ _ ∧ _ ∧ _)
                      clear hrU hI hD hrd
                      go_wp2_with fail
                      refine HI.out.1.mono ?_
                      rintro e w8 ⟨rfl, hr8, hO8⟩
                      obtain ⟨-, hI, -, -⟩ := HI.out
                      have hN8 := hI.nd.frame hO8 (fun x _ e => by rw [e]; exact hI.gt.2.1) (fun x _ e => by rw [e]; exact hI.rd.noByte)
                      have hTop := hN8.top
                      simp only [topCells, if_true] at hTop
                      rw [hI.sh.1] at hTop
                      have t4 := cells_at hTop 4 _ rfl
                      have t5 := cells_at hTop 5 _ rfl
                      simp only [List.getElem_toArray, List.getElem_cons_succ, List.getElem_cons_zero] at t4 t5
                      have hlp := heap_lt hTop
                      have td := hN8.dead.cell (o := c) (by rw [hI.sh.1]; omega)
                      have tf := hN8.dead.froz c
                      have hld := cell_lt td
                      have tc := hN8.chips.cell (o := c) (by rw [hI.sh.1]; omega)
                      rw [hI.sh.2.1] at tc
                      have hlc := cell_lt tc
                      have hSd : L.S L.dd := hN8.Sd
                      have hP := hN8.setGone (c := c) (by rw [hI.sh.1]; omega) ((D : Int) == 1)
                      have hOd : Only L.S w8 (w8.setCell ⟨L.dd, c, none⟩ (.bool ((D : Int) == 1))) := (Only.refl L.S w8).set ⟨L.dd, c, none⟩ (.bool ((D : Int) == 1)) (fun _ => hSd)
                      have hne1 : L.p ≠ L.dd := fun e => by have h1 := hN8.tp; have h2 := hN8.td; rw [e] at h1; rw [h1] at h2; cases h2
                      have hne2 : L.cs ≠ L.dd := fun e => by have h1 := hN8.tc; have h2 := hN8.td; rw [e] at h1; rw [h1] at h2; cases h2
                      obtain ⟨M', hM'⟩ : ∃ M' : Nd, M' = { M with gone := upd1 M.gone c ((D : Int) == 1) } := ⟨_, rfl⟩
                      have hB := hI.byte (by omega) (by omega) HI.out.2.2.1 hM' hO8 hr8 (hP.congr hM'.symm) hOd
                      have HB := Lib.hid hB
                      clear hB hP hOd hM' hN8 hTop hI hr8 hO8
                      go_wp2_with fail
                      clear t4 t5 td tf tc hlp hld hlc
                      generalize w8.setCell ⟨L.dd, c, none⟩ (.bool ((D : Int) == 1)) = w9 at HB ⊢
                      go_loopw [61] (fun i wr => ∃ (j k' : Nat) (L' : NdLay) (M' : Nd), j ≤ g1 ∧ i = .int .i64 j ∧ L'.p = L.p ∧ LBInv w r qg v l g0 g1 g2 g3 c D j k' L' M' wr) (fun i _ => g1 - (intOf i).toNat)
                      case atStart => exact ⟨0, _, _, _, Nat.zero_le _, rfl, rfl, HB.out⟩
                      case round =>
                        clear HB
                        generalize wr = wb at hrel ⊢
                        obtain ⟨j, kb, L', M5, hj, rfl, hLp, hJ⟩ := hrel
                        have HLP := Lib.hid hLp
                        have hlt0 := HI.out.2.2.2
                        by_cases hjlt : j < g1
                        · have hjlt' : (j : Int) < (g1 : Int) := by omega
                          have hTop := hJ.nd.top
                          simp only [topCells, if_true] at hTop
                          rw [hJ.sh.1] at hTop
                          have t4 := cells_at hTop 4 _ rfl
                          simp only [List.getElem_toArray, List.getElem_cons_succ, List.getElem_cons_zero] at t4
                          have hlp := heap_lt hTop
                          rw [hLp] at t4 hlp
                          clear hLp
                          have tc := hJ.nd.chips.cell (o := c) (by rw [hJ.sh.1]; omega)
                          rw [hJ.sh.2.1] at tc
                          have hlc := cell_lt tc
                          have hG0 := cells_at hJ.geo 0 _ rfl
                          have hG1 := cells_at hJ.geo 1 _ rfl
                          have hG2 := cells_at hJ.geo 2 _ rfl
                          have hG3 := cells_at hJ.geo 3 _ rfl
                          simp only [List.getElem_toArray, List.getElem_cons_succ, List.getElem_cons_zero] at hG0 hG1 hG2 hG3
                          have hlg := cell_lt hG0
                          have hld := bload_calls hJ.nd.drew c j (by rw [hJ.sh.1]; omega) (by rw [hJ.sh.2.1]; omega) (fun q => hJ.here j q (Nat.le_refl _)) r v l kb (hJ.rd.below (Below.refl _ _).drew) hJ.gt.2.1 hl
                          rw [hJ.sh.1, hJ.sh.2.1, hJ.sh.2.2.1, hJ.sh.2.2.2] at hld
                          have HL := Lib.hid (⟨hld, hJ, hjlt⟩ : _ ∧ _ ∧ _)
                          clear hld hJ hTop
                          go_wp2_with fail
                          (refine wp_region_mix [0, 1, 2, 3, 4, 5, 6, 7, 8, 9, 10, 11, 12] [(true, true), (true, true), (true, true), (true, false), (true, true), (true, true), (true, false), (true, true), (true, true), (true, true), (true, false), (false, false), (true, true)] [0, 1, 3, 7, 0, 31, 63, 0, 255, 0, 0, 2047, 4095] _ (by kernel_rfl) (by kernel_rfl) (rfl : _ = _) ?_; simp only [pickL, List.map_cons, List.map_nil, List.getD_cons_succ, List.getD_cons_zero])
                          (repeat (first | (refine mix_pure (fun hne K hK => ?_); go_simp; refine hK _ ?_; clear hK K hne) | (refine mix_load ?_ (fun K hK => ?_); (focus (first | rfl | (go_simp; done))); go_simp; refine hK _ ?_; clear hK K) | (refine mix_skip ?_ (fun K hK => ?_); (focus (first | rfl | (go_simp; done))); go_simp; refine hK _ ?_; clear hK K)))
                          (refine mix_one (by first | rfl | (go_simp; done)) (fun R hR hX => ?_))
                          clear t4 tc hlp hlc hG0 hG1 hG2 hG3 hlg
                          go_wp2_with fail
                          refine HL.out.1.mono ?_
                          rintro e wm ⟨hOm, hm⟩
                          obtain ⟨-, hJ, -⟩ := HL.out
                          have hOm' := (Only.of_drew (fun x => L'.S x ∨ x = r) wb).trans hOm fun _ _ h => h
                          rcases hm with ⟨L6, M6, k6, rfl, hL6, hN6, hr6, -, htk6, hbo6, -, -, -, hn6⟩ | ⟨hnb, he⟩
                          · have hst := hJ.step (by omega) (by omega) hL6 hN6 hr6 hOm' htk6 hbo6 hn6
                            have HST := Lib.hid (⟨hst, hL6.p⟩ : _ ∧ _)
                            clear hst hL6 hN6 hr6 hOm hOm' htk6 hbo6 hn6 hJ
                            go_wp2_with fail
                            ((try simp only [wpList]); refine hR _ _ rfl ⟨fun w' => w' = _, rfl, (fun h => by cases h), ?_⟩; clear hR hX R)
                            (repeat (first | (refine mix_pure (fun hne K hK => ?_); go_simp; refine hK _ ?_; clear hK K hne) | (refine mix_load ?_ (fun K hK => ?_); (focus (first | rfl | (go_simp; done))); go_simp; refine hK _ ?_; clear hK K) | (refine mix_skip ?_ (fun K hK => ?_); (focus (first | rfl | (go_simp; done))); go_simp; refine hK _ ?_; clear hK K)))
                            refine mix_done ?_
                            go_wp2_with fail
                            go_roundw
                            case rel => exact ⟨j + 1, k6, L6, M6, HL.out.2.2, by go_num, HST.out.2.trans HLP.out, HST.out.1⟩
                            case measure => have := HL.out.2.2; simp [intOf]; omega
                          · have hnb2 := leftB_none hJ.left (by omega) (by omega) (by rw [← hJ.sh.2.2.1, ← hJ.sh.2.2.2]; exact hnb)
                            have hOw := only_reader hJ.new hJ.only hOm'
                            rcases he with rfl | ⟨jj, rfl⟩
                            · have HX := Lib.hid (HNO.out hnb2 wm _ hOw (.inl ⟨62, by omega, rfl⟩))
                              clear hnb hnb2 hOw hOm hOm' hJ
                              go_wp2_with fail
                              ((try simp only [wpList]); refine hR _ _ rfl ⟨fun w' => w' = _, rfl, (fun h => by cases h), ?_⟩; clear hR hX R)
                              (repeat (first | (refine mix_pure (fun hne K hK => ?_); go_simp; refine hK _ ?_; clear hK K hne) | (refine mix_load ?_ (fun K hK => ?_); (focus (first | rfl | (go_simp; done))); go_simp; refine hK _ ?_; clear hK K) | (refine mix_skip ?_ (fun K hK => ?_); (focus (first | rfl | (go_simp; done))); go_simp; refine hK _ ?_; clear hK K)))
                              refine mix_done ?_
                              go_wp2_with fail
                              exact HX.out
                            · have HX := Lib.hid (HNO.out hnb2 wm _ hOw (.inr ⟨jj, rfl⟩))
                              clear hnb hnb2 hOw hOm hOm' hJ
                              go_wp2_with fail
                              refine hX _ _ _ (by simp) (fun a'' ha'' => ?_)
                              ((try simp only [Exit.inBlock, Exit.then]); exact ⟨ha'', HX.out⟩)
                        · obtain rfl : j = g1 := by omega
                          clear hLp
                          by_cases hD1 : 1 < D
                          · have HX := Lib.hid (HNO.out (leftB_bad hJ.left hD1) wb _ hJ.only (.inl ⟨62, by omega, rfl⟩))
                            clear hJ
                            go_wp2_with fail
                            exact HX.out
                          · have hch := hJ.chip (by omega)
                            have HX := Lib.hid hch
                            have hD1' : D ≤ 1 := by omega
                            clear hJ hch
                            go_wp2_with fail
                            go_roundw
                            case rel => exact ⟨c + 1, kb, L', M5, by omega, by go_num, HLP.out, HX.out⟩
                            case measure => simp [intOf]; omega
                  · obtain rfl : c = g0 + 1 := by omega
                    have hlf := rleft2_calls r v l k wo hI.rd hl
                    have HLF := Lib.hid (⟨hlf, hI⟩ : _ ∧ _)
                    have hkl := hI.rd.le
                    clear hlf hI
                    by_cases hk : k < l.length
                    · have HX := Lib.hid (HNO.out (leftC_end HLF.out.2.left hk) wo.drew _ HLF.out.2.only.drew (.inl ⟨62, by omega, rfl⟩))
                      have hk2 : ¬ (l.length : Int) - k = 0 := by omega
                      go_wp2_with fail
                      refine HLF.out.1.mono ?_
                      rintro e w9 ⟨rfl, rfl⟩
                      go_wp2_with fail
                      exact HX.out
                    · obtain rfl : k = l.length := by omega
                      have hbody : bodyB M = l := by
                        have := HLF.out.2.tk
                        rw [List.take_length] at this
                        rw [this, bodyB, HLF.out.2.sh.1]
                      have HX := Lib.hid (HYES.out wo.drew L M HLF.out.2.only.drew HLF.out.2.nd.drew HLF.out.2.new hbody HLF.out.2.quiet.1 HLF.out.2.quiet.2.1 HLF.out.2.quiet.2.2)
                      go_wp2_with fail
                      refine HLF.out.1.mono ?_
                      rintro e w9 ⟨rfl, rfl⟩
                      go_wp2_with fail
                      exact HX.out
end Go.Proofs.Ytphnjiokihbhnaa
