/- nand.Load. -/
--only r2
import Derived.Test.YtphnjiokihbhnaaNandLoad
import Derived.Test.YtphnjiokihbhnaaRead
import Derived.Test.YtphnjiokihbhnaaSum
/- nand.Load: its two closures. -/
namespace Go.Proofs.Ytphnjiokihbhnaa
set_option linter.unusedVariables false
set_option linter.unusedSimpArgs false
open Go.RowKit

set_option maxHeartbeats 1000000 in
/-- the first: the stored sum is read -/
theorem load1_calls (r q : Nat) (v u : Value) (l : List UInt8) (w : World) (hr : Rd w r v l 0) (hl : l.length = 4) (hq : w.heap[q]? = some (.cells #[u] 108 (0, 0))) (hqr : q ≠ r) :
    Calls Try.prog 52 #[ptrV r, ptrV q] w fun e w' => e = .returned (.tuple #[]) ∧ w'.heap[q]? = some (.cells #[.int .u32 (leNum l)] 108 (0, 0)) ∧ Only (fun x => x = r ∨ x = q) w w' := by
  have h1 := rU32_ok r 0 v l w hr (by omega)
  rw [List.drop_zero, List.take_of_length_le (by omega)] at h1
  have HU := Lib.hid (⟨h1, hq⟩ : _ ∧ _)
  clear h1 hr hq
  generalize leNum l = n at HU ⊢
  go_enter Try.func52, Try.ntmps52
  go_wp2_with fail
  refine HU.out.1.mono ?_
  rintro e w1 ⟨rfl, -, hO1⟩
  have hQ1 := hO1.at HU.out.2 hqr
  have c0 := cells_at hQ1 0 _ rfl
  have f0 := froz_at hQ1 0
  have hlq := heap_lt hQ1
  have hS := set_at (o := 0) hQ1 (.int .u32 n)
  have hO2 := (hO1.mono fun x _ e => .inl e).trans (Only.of_set w1 ⟨q, 0, none⟩ (.int .u32 n)) (fun x _ e => (.inr e : x = r ∨ x = q))
  have HX := Lib.hid (⟨hS, hO2⟩ : _ ∧ _)
  clear hQ1 hS hO2 hO1 HU
  go_wp2_with fail
  ((try simp only [Exit.inBlock, Exit.then]); (first | refine bodyPost_end (results_none rfl _ _ _) rfl ?_ | refine bodyPost_ret (results_none rfl _ _ _) rfl ?_))
  exact ⟨rfl, HX.out.1, HX.out.2⟩

/-- what the second closure leaves -/
def Load2 (B0 q6 q7 : Nat) (l : List UInt8) (b : Bool) (w' : World) : Prop :=
  (b = true → ∃ (a : Option Addr) (en : Nat), w'.heap[q6]? = some (.cells #[.pointer a] 24 (0, 0)) ∧ w'.heap[q7]? = some (.cells #[.int .i64 en] 25 (0, 0)) ∧
    ((∃ L M, a = some ⟨L.p, 0, none⟩ ∧ en = 0 ∧ NdAt true w' L M ∧ (∀ x, L.tag x ≠ .none → B0 ≤ x) ∧ bodyB M = l ∧ M.evs = [] ∧ M.off = false ∧ M.ops = 0) ∨ (NoBody l ∧ en ≠ 0 ∧ a = none))) ∧ (b = false → NoBody l)

set_option maxRecDepth 100000 in
set_option maxHeartbeats 2000000 in
/-- the second: chips are read -/
theorem load2_calls (r q6 q7 : Nat) (v : Value) (l : List UInt8) (w : World) (hr : Rd w r v l 0) (hl : l.length ≤ 100000000) (h6 : w.heap[q6]? = some (.cells #[.pointer none] 24 (0, 0))) (h7 : w.heap[q7]? = some (.cells #[.int .i64 0] 25 (0, 0))) (h6r : q6 ≠ r) (h7r : q7 ≠ r) (h67 : q6 ≠ q7) :
    Calls Try.prog 54 #[ptrV r, ptrV q6, ptrV q7] w fun e w' => ∃ b : Bool, (if b then e = .returned (.tuple #[]) else ∃ k, e = shortPanic k) ∧ Load2 w.heap.size q6 q7 l b w' ∧ Only (fun x => x = r ∨ (x = q6 ∨ x = q7)) w w' := by
  have hld := lload_calls w r v l hr hl
  have hlt6 := heap_lt h6
  have hlt7 := heap_lt h7
  have HU := Lib.hid (⟨hld, h6, h7⟩ : _ ∧ _ ∧ _)
  clear hld h6 h7 hr
  go_enter Try.func54, Try.ntmps54
  go_wp2_with fail
  refine HU.out.1.mono ?_
  rintro e w1 ⟨hO1, hcase⟩
  have g6 := hO1.at HU.out.2.1 h6r
  have g7 := hO1.at HU.out.2.2 h7r
  have c6 := cells_at g6 0 _ rfl
  have f6 := froz_at g6 0
  have c7 := cells_at g7 0 _ rfl
  have f7 := froz_at g7 0
  have hl6 := heap_lt g6
  have hl7 := heap_lt g7
  have hset : ∀ (a : Option Addr) (en : Nat), ((w1.setCell ⟨q6, 0, none⟩ (.pointer a)).setCell ⟨q7, 0, none⟩ (.int .i64 en)).heap[q6]? = some (.cells #[.pointer a] 24 (0, 0)) ∧ ((w1.setCell ⟨q6, 0, none⟩ (.pointer a)).setCell ⟨q7, 0, none⟩ (.int .i64 en)).heap[q7]? = some (.cells #[.int .i64 en] 25 (0, 0)) ∧ Only (fun x => x = r ∨ (x = q6 ∨ x = q7)) w ((w1.setCell ⟨q6, 0, none⟩ (.pointer a)).setCell ⟨q7, 0, none⟩ (.int .i64 en)) := fun a en => by
    have s6 := set_at (o := 0) g6 (.pointer a)
    have s7 := set_at (o := 0) (set_other (a := ⟨q6, 0, none⟩) (.pointer a) g7 h67.symm) (.int .i64 en)
    refine ⟨set_other (a := ⟨q7, 0, none⟩) (.int .i64 en) s6 h67, s7, ?_⟩
    exact ((hO1.mono fun x _ e => .inl e).set ⟨q6, 0, none⟩ (.pointer a) (fun _ => .inr (.inl rfl))).set ⟨q7, 0, none⟩ (.int .i64 en) (fun _ => .inr (.inr rfl))
  have HS := Lib.hid hset
  rcases hcase with ⟨L, M, rfl, hN, ht, hb, he, ho, hop⟩ | ⟨hno, ⟨en, hen, rfl⟩ | ⟨j, rfl⟩⟩
  · have hN2 : NdAt true ((w1.setCell ⟨q6, 0, none⟩ (ptrV L.p)).setCell ⟨q7, 0, none⟩ (.int .i64 0)) L M := by
      have hO2 : Only (fun x => x = q6 ∨ x = q7) w1 ((w1.setCell ⟨q6, 0, none⟩ (ptrV L.p)).setCell ⟨q7, 0, none⟩ (.int .i64 0)) := ((Only.refl _ w1).set ⟨q6, 0, none⟩ (ptrV L.p) (fun _ => .inl rfl)).set ⟨q7, 0, none⟩ (.int .i64 0) (fun _ => .inr rfl)
      refine hN.frame hO2 (fun x _ e => ?_) (fun x _ e => ?_)
      · by_cases e2 : L.tag x = .none
        · exact e2
        · have := ht x e2; rcases e with rfl | rfl <;> omega
      · rcases e with rfl | rfl
        · exact noByte_of g6 (nb1 (nb_ptr _))
        · exact noByte_of g7 (nb1 (nb_i64 _))
    have HX := Lib.hid (⟨HS.out (some ⟨L.p, 0, none⟩) 0, hN2⟩ : _ ∧ _)
    have HM := Lib.hid (⟨ht, hb, he, ho, hop⟩ : _ ∧ _ ∧ _ ∧ _ ∧ _)
    clear g6 g7 hset hN hN2 hO1 ht hb he ho hop HU HS
    go_wp2_with fail
    ((try simp only [Exit.inBlock, Exit.then]); (first | refine bodyPost_end (results_none rfl _ _ _) rfl ?_ | refine bodyPost_ret (results_none rfl _ _ _) rfl ?_))
    exact ⟨true, rfl, ⟨fun _ => ⟨_, 0, HX.out.1.1, HX.out.1.2.1, .inl ⟨L, M, rfl, rfl, HX.out.2, HM.out⟩⟩, fun h => by cases h⟩, HX.out.1.2.2⟩
  · have HX := Lib.hid (HS.out none en)
    clear g6 g7 hset hO1 HU HS
    go_wp2_with fail
    ((try simp only [Exit.inBlock, Exit.then]); (first | refine bodyPost_end (results_none rfl _ _ _) rfl ?_ | refine bodyPost_ret (results_none rfl _ _ _) rfl ?_))
    exact ⟨true, rfl, ⟨fun _ => ⟨none, en, HX.out.1, HX.out.2.1, .inr ⟨hno, hen, rfl⟩⟩, fun h => by cases h⟩, HX.out.2.2⟩
  · have HO := Lib.hid hO1
    clear g6 g7 hset hO1 HU HS
    go_wp2_with fail
    ((try simp only [Exit.inBlock, Exit.then]); exact ⟨rfl, false, ⟨j, rfl⟩, ⟨(fun h => by cases h), fun _ => hno⟩, HO.out.mono fun x _ e => .inl e⟩)
end Go.Proofs.Ytphnjiokihbhnaa
namespace Go.Proofs.Ytphnjiokihbhnaa
set_option linter.unusedVariables false
set_option linter.unusedSimpArgs false
open Go.RowKit

def NLoadEnds (w : World) (l : List UInt8) (e : Ending) (w' : World) : Prop :=
  Below w.heap.size w w' ∧
  ((∃ L M, e = .returned (.tuple #[ptrV L.p, .int .i64 0]) ∧ NdAt true w' L M ∧ (∀ x, L.tag x ≠ .none → w.heap.size ≤ x) ∧ dumpB M = l ∧ M.evs = [] ∧ M.off = false ∧ M.ops = 0)
   ∨ ((∀ M0, IsChips M0 → dumpB M0 ≠ l) ∧ ∃ en : Nat, en ≠ 0 ∧ e = .returned (.tuple #[.pointer none, .int .i64 en])))

theorem Load2.mono {B B' q6 q7 : Nat} {l : List UInt8} {b : Bool} {w : World} (h : Load2 B q6 q7 l b w) (hB : B' ≤ B) : Load2 B' q6 q7 l b w := by
  refine ⟨fun hb => ?_, h.2⟩
  obtain ⟨a, en, h1, h2, h3⟩ := h.1 hb
  refine ⟨a, en, h1, h2, h3.imp_left ?_⟩
  rintro ⟨L, M, e1, e2, hN, ht, r⟩
  exact ⟨L, M, e1, e2, hN, fun x hx => Nat.le_trans hB (ht x hx), r⟩

set_option maxRecDepth 100000 in
set_option maxHeartbeats 4000000 in
theorem nload_calls (w : World) (v : Value) (l : List UInt8) (hv : RB w v l) (hl : l.length ≤ 100000000) :
    Calls Try.prog 32 #[v] w (NLoadEnds w l) := by
  have hno : (∀ M0, IsChips M0 → dumpB M0 ≠ l) → ∀ w' (en : Nat), Below w.heap.size w w' → en ≠ 0 → NLoadEnds w l (.returned (.tuple #[.pointer none, .int .i64 en])) w' := fun hn w' en hb he => ⟨hb, .inr ⟨hn, en, he, rfl⟩⟩
  have hyes : ∀ w' L M, Below w.heap.size w w' → NdAt true w' L M → (∀ x, L.tag x ≠ .none → w.heap.size ≤ x) → dumpB M = l → M.evs = [] → M.off = false → M.ops = 0 → NLoadEnds w l (.returned (.tuple #[ptrV L.p, .int .i64 0])) w' := fun w' L M hO h1 h2 h3 h4 h5 h6 => ⟨hO, .inl ⟨L, M, rfl, h1, h2, h3, h4, h5, h6⟩⟩
  generalize NLoadEnds w l = Post at hno hyes ⊢
  have HNO := Lib.hid hno
  have HYES := Lib.hid hyes
  clear hno hyes
  obtain ⟨a, cp, rfl, hlc, hmx⟩ := hv.form
  unfold maxLen at hmx
  have hdl : ∀ M0, dumpB M0 = l → 4 ≤ l.length := fun M0 e => by
    rw [← e, dumpB, List.length_append, leAll_length]; simp only [List.length_cons, List.length_nil]; omega
  by_cases h4 : l.length < 4
  · have HX := Lib.hid (HNO.out (fun M0 _ e => by have := hdl M0 e; omega) w 62 (Below.refl _ _) (by omega))
    go_enter Try.func32, Try.ntmps32
    go_wp2_with fail
    exact HX.out
  · obtain ⟨n, hn⟩ : ∃ n, n = l.length - 4 := ⟨_, rfl⟩
    have hnl : ((n : Nat) : Int) = (l.length : Int) - 4 := by omega
    obtain ⟨i, hi, hz0, hz1, hz2⟩ := info_parts infoU8
    have hcf : ∀ w, (Instr.sliceAt 31 (.slice a l.length cp) (some (.int .i64 ((l.length : Int) - 4))) none none).run Try.prog w = .ok (cutV a cp n l.length) w := fun w => by
      rw [← hnl]; exact run_cut_from Try.underlying31 hi hz1 a l.length cp n (by omega) w
    have hct : ∀ w, (Instr.sliceAt 31 (.slice a l.length cp) none (some (.int .i64 ((l.length : Int) - 4))) none).run Try.prog w = .ok (cutV a cp 0 n) w := fun w => by
      rw [← hnl]; exact run_cut_to Try.underlying31 hi hz1 a l.length cp n (by omega) w
    have hlast : RB w (cutV a cp n l.length) (l.drop n) := by
      have := RV.cut hv (i := n) (j := l.length) (by omega) (by simp)
      unfold RB
      rw [← List.map_drop] at this
      rwa [List.take_of_length_le (by simp)] at this
    have hbody : RB w (cutV a cp 0 n) (l.take n) := by
      have := RV.cut hv (i := 0) (j := n) (by omega) (by simp; omega)
      unfold RB
      rw [List.drop_zero, Nat.sub_zero, ← List.map_take] at this
      exact this
    obtain ⟨al, cl, el, -, -⟩ := hlast.form
    obtain ⟨ab, cb, eb, -, -⟩ := hbody.form
    have hll : (l.drop n).length = 4 := by simp; omega
    have hbl : (l.take n).length = n := by simp; omega
    rw [el, hll] at hlast
    rw [eb, hbl] at hbody
    have hcf2 : ∀ w, (Instr.sliceAt 31 (.slice a l.length cp) (some (.int .i64 ((l.length : Int) - 4))) none none).run Try.prog w = .ok (.slice al 4 cl) w := fun w => by rw [hcf w, el, hll]
    have hct2 : ∀ w, (Instr.sliceAt 31 (.slice a l.length cp) none (some (.int .i64 ((l.length : Int) - 4))) none).run Try.prog w = .ok (.slice ab n cb) w := fun w => by rw [hct w, eb, hbl]
    obtain ⟨last, hlst⟩ : ∃ x, x = l.drop n := ⟨_, rfl⟩
    obtain ⟨body, hbdy⟩ : ∃ x, x = l.take n := ⟨_, rfl⟩
    have hcat : l = body ++ last := by rw [hlst, hbdy, List.take_append_drop]
    rw [← hlst] at hlast hll
    rw [← hbdy] at hbody hbl
    have HL := Lib.hid (⟨hlast, hbody, hcat, hll, hbl, hdl⟩ : _ ∧ _ ∧ _ ∧ _ ∧ _ ∧ _)
    have hf1 : ∀ (args : Array Value) (w : World), (callFunc 52 args).run Try.prog w = .ok (.enter 52 args) w := fun args w => by
      first | rfl | kernel_rfl
    have hf2 : ∀ (args : Array Value) (w : World), (callFunc 54 args).run Try.prog w = .ok (.enter 54 args) w := fun args w => by
      first | rfl | kernel_rfl
    have hmf : ∀ (fn : Fn) (first cap : Array Value) (w : World), (Instr.makeFunc fn first cap).run Try.prog w = .ok (.func fn first cap) w := fun _ _ _ _ => rfl
    have hsub : IntKind.i64.wrap ((l.length : Int) - 4) = (l.length : Int) - 4 := IntWalk.i64_in _ (by omega)
    have HF := Lib.hid (⟨hf1, hf2⟩ : _ ∧ _)
    clear hcf hct hlast hbody hcat hll hbl hdl el eb hlst hbdy hf1 hf2 hn hnl hv hz0 hz1 hz2 hi
    have hdump : ∀ M0, dumpB M0 = l → bodyB M0 = body ∧ leNum last = (crcOf body).toNat := fun M0 e => by
      have e2 := e.trans HL.out.2.2.1
      unfold dumpB at e2
      have hlen : (leAll 4 [(crcOf (bodyB M0)).toNat]).length = last.length := by rw [leAll_length, HL.out.2.2.2.1]; rfl
      obtain ⟨e3, e4⟩ := List.append_inj' e2 hlen
      refine ⟨e3, ?_⟩
      rw [← e4, ← e3]
      simp only [leAll, List.flatMap_cons, List.flatMap_nil, List.append_nil]
      exact leNum_le 4 _ (crcOf (bodyB M0)).isLt
    have HDM := Lib.hid hdump
    clear hdump
    obtain ⟨q4, hq4⟩ : ∃ q, q = w.heap.size := ⟨_, rfl⟩
    have hal := (Below.refl w.heap.size w).alloc (Nat.le_refl _) (.cells #[.int .u32 0] 108)
    have hQ4 : (w.alloc (.cells #[.int .u32 0] 108)).heap[q4]? = some (.cells #[.int .u32 0] 108 (0, 0)) := heap_is hq4
    have hs1 : (w.alloc (.cells #[.int .u32 0] 108)).heap.size = q4 + 1 := by rw [hq4]; simp
    go_enter Try.func32, Try.ntmps32
    go_wp2_with fail
    rw [← hq4]
    have HQ4 := Lib.hid hq4
    clear hq4
    generalize w.alloc (.cells #[.int .u32 0] 108) = w1 at hal hQ4 hs1 ⊢
    refine (read_calls 52 #[ptrV q4] _ last w1 (fun x => x = q4) (fun b w' => b = true ∧ w'.heap[q4]? = some (.cells #[.int .u32 (leNum last)] 108 (0, 0))) (HL.out.1.below hal) (by omega) HF.out.1 ?_).mono ?_
    · intro w2 r hb2 hrr hRd _
      refine (load1_calls r q4 _ _ last w2 hRd HL.out.2.2.2.1 (heap_keep hb2 hQ4) (by omega)).mono ?_
      rintro e w3 ⟨rfl, h1, h2⟩
      exact ⟨true, rfl, ⟨rfl, h1⟩, h2⟩
    rintro e w4 ⟨b, rfl, w3, ⟨rfl, h1⟩, h2, h3⟩
    have h4' := h2.at h1 (show ¬ q4 = w1.heap.size by omega)
    have hO4 : Only (fun x => x = q4) w1 w4 := h3.trans h2 fun x hx e => by omega
    have hB4 : Below w.heap.size w w4 := hal.trans (hO4.below hal.size fun x hx e => by have := HQ4.out; omega)
    have hbd := HL.out.2.1.below hB4
    have hs4 := hB4.size
    have hql := heap_lt h4'
    obtain ⟨sn, hsn⟩ : ∃ sn : Nat, sn = (crcOf body).toNat := ⟨_, rfl⟩
    have hsl : sn < 4294967296 := by rw [hsn]; exact (crcOf body).isLt
    have hsum : Calls Try.prog 47 #[.slice (some ⟨w4.drew.heap.size, 0, none⟩) 1 1] (w4.drew.alloc (.cells #[.slice ab n cb] 31)) fun e w' => e = .returned (.int .u32 (sn : Int)) ∧ Below w4.drew.heap.size w4.drew w' := (sum_one _ body w4.drew 31 (hbd.below (Below.refl _ _).drew)).mono fun e w' h => ⟨by rw [h.1, hsn], h.2⟩
    have HM := Lib.hid (⟨hsum, hsn, hB4, h4', hbd⟩ : _ ∧ _ ∧ _ ∧ _ ∧ _)
    generalize hon : leNum last = own at h4' HM HDM
    have HON := Lib.hid hon
    have o0 : ∀ w' : World, w'.heap[q4]? = some (.cells #[.int .u32 own] 108 (0, 0)) → w'.cell? ⟨q4, 0, none⟩ = some (.int .u32 own) := fun w' h => cells_at h 0 _ rfl
    clear hsum hsn hB4 hbd h1 h2 h3 hO4 hal hQ4 hs1 hon
    go_wp2_with fail
    (refine wp_region_mix [0, 1, 2, 3, 4] [(true, false), (true, true), (false, true), (false, true), (true, true)] [0, 0, 2, 6, 15] (fun w' => w'.heap[q4]? = some (.cells #[.int .u32 own] 108 (0, 0))) (by kernel_rfl) (by kernel_rfl) ?_ ?_; rotate_left; simp only [pickL, List.map_cons, List.map_nil, List.getD_cons_succ, List.getD_cons_zero])
    rotate_left
    focus exact h4'
    (repeat (first | (refine mix_pure (fun hne K hK => ?_); go_simp; refine hK _ ?_; clear hK K hne) | (refine mix_load ?_ (fun K hK => ?_); (focus (first | rfl | (go_simp; done))); apply Exists.intro; apply And.intro; (focus (intro w' hC; go_simp; exact rfl)); go_simp; refine hK _ ?_; clear hK K) | (refine mix_skip ?_ (fun K hK => ?_); (focus (first | rfl | (go_simp; done))); go_simp; refine hK _ ?_; clear hK K)))
    (refine mix_one (by first | rfl | (go_simp; done)) (fun R hR hX => ?_))
    go_wp2_with fail
    refine hR _ _ rfl ⟨_, heap_old _ h4', fun _ => rfl, ?_⟩
    clear hR hX R
    (repeat (first | (refine mix_pure (fun hne K hK => ?_); go_simp; refine hK _ ?_; clear hK K hne) | (refine mix_load ?_ (fun K hK => ?_); (focus (first | rfl | (go_simp; done))); apply Exists.intro; apply And.intro; (focus (intro w' hC; go_simp; exact rfl)); go_simp; refine hK _ ?_; clear hK K) | (refine mix_skip ?_ (fun K hK => ?_); (focus (first | rfl | (go_simp; done))); go_simp; refine hK _ ?_; clear hK K)))
    (refine mix_one (by first | rfl | (go_simp; done)) (fun R hR hX => ?_))
    go_wp2_with fail
    refine HM.out.1.mono ?_
    rintro e w5 ⟨rfl, hb5⟩
    have h5' := heap_keep (w := w4.drew) hb5 h4'
    go_wp2_with fail
    refine hR _ _ rfl ⟨_, h5', fun _ => rfl, ?_⟩
    clear hR hX R
    (repeat (first | (refine mix_pure (fun hne K hK => ?_); go_simp; refine hK _ ?_; clear hK K hne) | (refine mix_load ?_ (fun K hK => ?_); (focus (first | rfl | (go_simp; done))); apply Exists.intro; apply And.intro; (focus (intro w' hC; go_simp; exact rfl)); go_simp; refine hK _ ?_; clear hK K) | (refine mix_skip ?_ (fun K hK => ?_); (focus (first | rfl | (go_simp; done))); go_simp; refine hK _ ?_; clear hK K)))
    refine mix_done ?_
    clear o0
    have hB5 : Below w.heap.size w w5 := HM.out.2.2.1.trans (((Below.refl w4.heap.size w4).drew.trans hb5).mono hs4)
    by_cases hso : own = sn
    rotate_left
    · have HX := Lib.hid (HNO.out (fun M0 _ e => hso (by rw [(HDM.out M0 e).2, HM.out.2.1])) w5 63 hB5 (by omega))
      have hso2 : ¬ (own : Int) = (sn : Int) := by omega
      clear hB5
      go_wp2_with fail
      exact HX.out
    · subst hso
      have hbd5 := HL.out.2.1.below hB5
      have HB5 := Lib.hid (⟨hB5, hbd5⟩ : _ ∧ _)
      clear hB5 hbd5 hb5 h5' h4'
      go_wp2_with fail
      have hal6 := ((Below.refl w5.heap.size w5).alloc (Nat.le_refl _) (.cells #[.pointer none] 24)).alloc (by simp) (.cells #[.int .i64 0] 25)
      have k6 : ((w5.alloc (.cells #[.pointer none] 24)).alloc (.cells #[.int .i64 0] 25)).heap[w5.heap.size]? = some (.cells #[.pointer none] 24 (0, 0)) := heap_old _ (heap_is rfl)
      have k7 : ((w5.alloc (.cells #[.pointer none] 24)).alloc (.cells #[.int .i64 0] 25)).heap[w5.heap.size + 1]? = some (.cells #[.int .i64 0] 25 (0, 0)) := heap_is (by simp)
      have hs6 : ((w5.alloc (.cells #[.pointer none] 24)).alloc (.cells #[.int .i64 0] 25)).heap.size = w5.heap.size + 2 := by simp
      obtain ⟨q6, hq6⟩ : ∃ q, q = w5.heap.size := ⟨_, rfl⟩
      rw [← hq6] at k6 k7 hs6 ⊢
      have HQ6 := Lib.hid hq6
      clear hq6
      generalize (w5.alloc (.cells #[.pointer none] 24)).alloc (.cells #[.int .i64 0] 25) = w6 at hal6 k6 k7 hs6 ⊢
      have hB6 : Below w.heap.size w w6 := HB5.out.1.trans (hal6.mono HB5.out.1.size)
      have hbl : body.length ≤ 100000000 := by
        have := congrArg List.length HL.out.2.2.1
        rw [List.length_append] at this; omega
      refine (read_calls 54 #[ptrV q6, ptrV (q6 + 1)] _ body w6 (fun x => x = q6 ∨ x = q6 + 1) (fun b w' => Load2 (w6.heap.size + 1) q6 (q6 + 1) body b w' ∧ NoByte w' w6.heap.size) (HB5.out.2.below hal6) (by omega) HF.out.2 ?_).mono ?_
      · intro w2 r hb2 hrr hRd hE
        have hrl := heap_lt hRd.cell
        refine (load2_calls r q6 (q6 + 1) _ body w2 hRd hbl (heap_keep hb2 k6) (heap_keep hb2 k7) (by omega) (by omega) (by omega)).mono ?_
        rintro e w3 ⟨b, h1, h2, h3⟩
        exact ⟨b, h1, ⟨h2.mono (by omega), noByte_of (h3.at hE (fun h => by omega)) (nb1 (nb_i64 _))⟩, h3⟩
      rintro e w8 ⟨b, rfl, w7, ⟨hL2, hnb⟩, h2, h3⟩
      have hO8 : Only (fun x => x = q6 ∨ x = q6 + 1) w6 w8 := h3.trans h2 fun x hx e => by omega
      have hB8 : Below w.heap.size w w8 := hB6.trans (hO8.below hB6.size fun x hx e => by have := HQ6.out; have := HB5.out.1.size; omega)
      have hnoall : NoBody body → ∀ M0, IsChips M0 → dumpB M0 ≠ l := fun h M0 h0 e => h M0 h0 (HDM.out M0 e).1
      cases b with
      | false =>
        have HX := Lib.hid (HNO.out (hnoall (hL2.2 rfl)) w8 62 hB8 (by omega))
        clear hL2 hnb h2 h3 hO8 hB8 hnoall k6 k7 hal6
        go_wp2_with fail
        exact HX.out
      | true =>
        obtain ⟨ap, en, g6, g7, hc⟩ := hL2.1 rfl
        have g6' := h2.at g6 (show ¬ q6 = w6.heap.size by omega)
        have g7' := h2.at g7 (show ¬ q6 + 1 = w6.heap.size by omega)
        have c6 := cells_at g6' 0 _ rfl
        have c7 := cells_at g7' 0 _ rfl
        have hlt6 := heap_lt g6'
        have hlt7 := heap_lt g7'
        rcases hc with ⟨L, M, rfl, rfl, hN, ht, hb, he, ho, hop⟩ | ⟨hno, hen, rfl⟩
        · have hN8 := hN.frame h2 (fun x _ e => by
            by_cases e2 : L.tag x = .none
            · exact e2
            · have := ht x e2; omega) (fun x _ e => by rw [e]; exact hnb)
          have hdmp : dumpB M = l := by
            rw [dumpB, hb, HL.out.2.2.1]
            congr 1
            have h1 := le_leNum last
            rw [HL.out.2.2.2.1] at h1
            rw [← HM.out.2.1, ← HON.out]
            simp only [leAll, List.flatMap_cons, List.flatMap_nil, List.append_nil]
            exact h1
          have HX := Lib.hid (HYES.out w8 L M hB8 hN8 (fun x hx => by have := ht x hx; have := hB6.size; omega) hdmp he ho hop)
          clear hL2 hnb h2 h3 hO8 hB8 hnoall k6 k7 hal6 g6 g7 g6' g7' hN hN8
          go_wp2_with fail
          exact HX.out
        · have HX := Lib.hid (HNO.out (hnoall hno) w8 en hB8 hen)
          have hen2 : ¬ (en : Int) = 0 := by omega
          clear hL2 hnb h2 h3 hO8 hB8 hnoall k6 k7 hal6 g6 g7 g6' g7'
          go_wp2_with fail
          exact HX.out
end Go.Proofs.Ytphnjiokihbhnaa
