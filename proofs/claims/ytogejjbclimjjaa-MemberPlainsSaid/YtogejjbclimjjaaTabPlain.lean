/- The law's plain tables. -/
--only r2
import Derived.Test.YtogejjbclimjjaaTabDec
namespace Go.Proofs.Ytogejjbclimjjaa
set_option linter.unusedVariables false
set_option linter.unusedSimpArgs false
open Go.RowKit

/-- a block of a plain table -/
def plainAt (b n i : Nat) : Nat := if b % 5 = 0 then (i + n) % b else (i * 5 + n) % b
def plainL (b n i k : Nat) : List Int := (List.range k).map fun j => ((plainAt b n (i + j) : Nat) : Int)
def plainT (b n k seq : Nat) : Tb := ⟨seq, plainL b n 2 (b - 5), plainL b n (b - 3) k, plainAt b n 0, plainAt b n 1⟩
theorem plainL_succ (b n i k : Nat) : plainL b n i (k + 1) = plainL b n i k ++ [((plainAt b n (i + k) : Nat) : Int)] := by
  unfold plainL; rw [List.range_succ, List.map_append]; rfl
theorem plainL_length (b n i k : Nat) : (plainL b n i k).length = k := by simp [plainL]
theorem plainAt_lt (b n i : Nat) (h : 0 < b) : plainAt b n i < b := by unfold plainAt; split <;> exact Nat.mod_lt _ h

/-- a table that is being made, in its block -/
structure TM (w : World) (tb : Nat) (seq : Nat) (pv sv : Value) (pl sp : List Int) (a c : Int) (wr : World) : Prop where
  box : wr.heap[tb]? = some (.cells #[.int .u32 seq, pv, sv, .int .i64 a, .int .i64 c] 57 (0, 0))
  po : wr.ownsRow (w.heap.size + 3) 3 1 pv pl.length (pl.map i64v)
  so : wr.ownsRow (w.heap.size + 3) 3 1 sv sp.length (sp.map i64v)
  ap : ∀ g, pv.ownBlock = some g → sv.ownBlock ≠ some g
  tbl : w.heap.size ≤ tb ∧ tb < w.heap.size + 3 ∧ w.heap.size + 3 ≤ wr.heap.size
section
variable {w wr w2 w4 : World} {tb : Nat} {seq : Nat} {pv sv pv' : Value} {pl sp : List Int} {a c x : Int}
theorem TM.below (h : TM w tb seq pv sv pl sp a c wr) (hb : Below wr.heap.size wr w2) : TM w tb seq pv sv pl sp a c w2 :=
  ⟨heap_keep hb h.box, own_only h.po (Only.new hb fun _ => False) (fun _ _ => id), own_only h.so (Only.new hb fun _ => False) (fun _ _ => id), h.ap, h.tbl.1, h.tbl.2.1, Nat.le_trans h.tbl.2.2 hb.size⟩
theorem TM.int3 (h : TM w tb seq pv sv pl sp a c wr) (x : Int) : TM w tb seq pv sv pl sp x c (wr.setCell ⟨tb, 3, none⟩ (.int .i64 x)) := by
  have hs := set_at (o := 3) h.box (.int .i64 x)
  simp only [List.setIfInBounds_toArray, List.set_cons_zero, List.set_cons_succ] at hs
  exact ⟨hs, own_only h.po (Only.of_set wr ⟨tb, 3, none⟩ (.int .i64 x)) (fun b hb e => by have := (h.po.lt b hb).1; have := h.tbl; have e : b = tb := e; omega), own_only h.so (Only.of_set wr ⟨tb, 3, none⟩ (.int .i64 x)) (fun b hb e => by have := (h.so.lt b hb).1; have := h.tbl; have e : b = tb := e; omega), h.ap, h.tbl.1, h.tbl.2.1, by rw [size_set]; exact h.tbl.2.2⟩
theorem TM.int4 (h : TM w tb seq pv sv pl sp a c wr) (x : Int) : TM w tb seq pv sv pl sp a x (wr.setCell ⟨tb, 4, none⟩ (.int .i64 x)) := by
  have hs := set_at (o := 4) h.box (.int .i64 x)
  simp only [List.setIfInBounds_toArray, List.set_cons_zero, List.set_cons_succ] at hs
  exact ⟨hs, own_only h.po (Only.of_set wr ⟨tb, 4, none⟩ (.int .i64 x)) (fun b hb e => by have := (h.po.lt b hb).1; have := h.tbl; have e : b = tb := e; omega), own_only h.so (Only.of_set wr ⟨tb, 4, none⟩ (.int .i64 x)) (fun b hb e => by have := (h.so.lt b hb).1; have := h.tbl; have e : b = tb := e; omega), h.ap, h.tbl.1, h.tbl.2.1, by rw [size_set]; exact h.tbl.2.2⟩
theorem TM.place (h : TM w tb seq pv sv pl sp a c wr)
    (hown : w4.ownsRow (w.heap.size + 3) 3 1 pv' (pl.length + 1) ((pl ++ [x]).map i64v)) (hg : wr.grownBy w4 pv.ownBlock) (hnew : ∀ g, pv'.ownBlock = some g → pv.ownBlock = some g ∨ wr.heap.size ≤ g) :
    TM w tb seq pv' sv (pl ++ [x]) sp a c (w4.setCell ⟨tb, 1, none⟩ pv') := by
  have hO := Only.of_grown hg
  have ht := h.tbl
  have hP : ∀ b, pv.ownBlock = some b → w.heap.size + 3 ≤ b := fun b hb => (h.po.lt b hb).1
  have hbox := hO.at h.box (fun e => by have := hP tb e; omega)
  have hset := set_at (o := 1) hbox pv'
  simp only [List.setIfInBounds_toArray, List.set_cons_zero, List.set_cons_succ] at hset
  have hown2 := own_only hown (Only.of_set w4 ⟨tb, 1, none⟩ pv') (fun b hb e => by have := (hown.lt b hb).1; have e : b = tb := e; omega)
  have hoth := own_only (own_only h.so hO (fun b hb e => h.ap b e hb)) (Only.of_set w4 ⟨tb, 1, none⟩ pv') (fun b hb e => by have := (h.so.lt b hb).1; have e : b = tb := e; omega)
  have hap : ∀ g, pv'.ownBlock = some g → sv.ownBlock ≠ some g := fun g hg' e => by
    rcases hnew g hg' with h1 | h1
    · exact h.ap g h1 e
    · have := (h.so.lt g e).2; omega
  exact ⟨hset, by simpa using hown2, hoth, hap, ht.1, ht.2.1, by rw [size_set]; exact Nat.le_trans ht.2.2 hO.size⟩
theorem TM.spare (h : TM w tb seq pv sv pl sp a c wr)
    (hown : w4.ownsRow (w.heap.size + 3) 3 1 pv' (sp.length + 1) ((sp ++ [x]).map i64v)) (hg : wr.grownBy w4 sv.ownBlock) (hnew : ∀ g, pv'.ownBlock = some g → sv.ownBlock = some g ∨ wr.heap.size ≤ g) :
    TM w tb seq pv pv' pl (sp ++ [x]) a c (w4.setCell ⟨tb, 2, none⟩ pv') := by
  have hO := Only.of_grown hg
  have ht := h.tbl
  have hP : ∀ b, sv.ownBlock = some b → w.heap.size + 3 ≤ b := fun b hb => (h.so.lt b hb).1
  have hbox := hO.at h.box (fun e => by have := hP tb e; omega)
  have hset := set_at (o := 2) hbox pv'
  simp only [List.setIfInBounds_toArray, List.set_cons_zero, List.set_cons_succ] at hset
  have hown2 := own_only hown (Only.of_set w4 ⟨tb, 2, none⟩ pv') (fun b hb e => by have := (hown.lt b hb).1; have e : b = tb := e; omega)
  have hoth := own_only (own_only h.po hO (fun b hb e => h.ap b hb e)) (Only.of_set w4 ⟨tb, 2, none⟩ pv') (fun b hb e => by have := (h.po.lt b hb).1; have e : b = tb := e; omega)
  have hap : ∀ g, pv'.ownBlock = some g → pv.ownBlock ≠ some g := fun g hg' e => by
    rcases hnew g hg' with h1 | h1
    · exact h.ap g e h1
    · have := (h.po.lt g e).2; omega
  exact ⟨hset, hoth, by simpa using hown2, fun g h1 h2 => hap g h2 h1, ht.1, ht.2.1, by rw [size_set]; exact Nat.le_trans ht.2.2 hO.size⟩

/-- how far a plain table is made -/
def PS (w : World) (tb seq b n k j : Nat) (pv sv : Value) (wr : World) : Prop :=
  TM w tb seq pv sv (plainL b n 2 (min (j - 2) (b - 5))) (plainL b n (b - 3) (min (j - (b - 3)) k)) (if 0 < j then ((plainAt b n 0 : Nat) : Int) else 0) (if 1 < j then ((plainAt b n 1 : Nat) : Int) else 0) wr
theorem PS.same {b n k j j' : Nat} {A C : Int} (h : TM w tb seq pv sv (plainL b n 2 (min (j - 2) (b - 5))) (plainL b n (b - 3) (min (j - (b - 3)) k)) A C wr) (h1 : min (j' - 2) (b - 5) = min (j - 2) (b - 5)) (h2 : min (j' - (b - 3)) k = min (j - (b - 3)) k) (h3 : A = if 0 < j' then ((plainAt b n 0 : Nat) : Int) else 0) (h4 : C = if 1 < j' then ((plainAt b n 1 : Nat) : Int) else 0) : PS w tb seq b n k j' pv sv wr := by
  subst h3 h4; unfold PS; rw [h1, h2]; exact h
theorem PS.t0 {b n k : Nat} (hb : 16 ≤ b) (h : PS w tb seq b n k 0 pv sv wr) : PS w tb seq b n k 1 pv sv (wr.setCell ⟨tb, 3, none⟩ (.int .i64 (plainAt b n 0 : Nat))) :=
  PS.same (j := 0) (TM.int3 h _) (by omega) (by omega) (by simp) (by simp)
theorem PS.t1 {b n k : Nat} (hb : 16 ≤ b) (h : PS w tb seq b n k 1 pv sv wr) : PS w tb seq b n k 2 pv sv (wr.setCell ⟨tb, 4, none⟩ (.int .i64 (plainAt b n 1 : Nat))) :=
  PS.same (j := 1) (TM.int4 h _) (by omega) (by omega) (by simp) (by simp)
theorem PS.skip {b n k j : Nat} (hb : 16 ≤ b) (h : PS w tb seq b n k j pv sv wr) (h1 : b - 3 ≤ j) (h2 : k ≤ j - (b - 3)) : PS w tb seq b n k (j + 1) pv sv wr :=
  PS.same (j := j) h (by omega) (by omega) (by rw [if_pos (by omega), if_pos (by omega)]) (by rw [if_pos (by omega), if_pos (by omega)])
theorem PS.plc {b n k j : Nat} (hb : 16 ≤ b) (h : PS w tb seq b n k j pv sv wr) (h1 : 2 ≤ j) (h2 : j < b - 3)
    (hown : w4.ownsRow (w.heap.size + 3) 3 1 pv' (j - 2 + 1) ((plainL b n 2 (j - 2)).map i64v ++ [i64v (plainAt b n j : Nat)])) (hg : wr.grownBy w4 pv.ownBlock) (hnew : ∀ g, pv'.ownBlock = some g → pv.ownBlock = some g ∨ wr.heap.size ≤ g) :
    PS w tb seq b n k (j + 1) pv' sv (w4.setCell ⟨tb, 1, none⟩ pv') := by
  have e1 : min (j - 2) (b - 5) = j - 2 := by omega
  have e2 : min (j + 1 - 2) (b - 5) = j - 2 + 1 := by omega
  have e3 : min (j + 1 - (b - 3)) k = min (j - (b - 3)) k := by omega
  unfold PS at h ⊢
  rw [e1] at h
  rw [e2, e3, plainL_succ]
  have := h.place (x := ((plainAt b n (2 + (j - 2)) : Nat) : Int)) (w4 := w4) (pv' := pv') (by rw [plainL_length, List.map_append, show 2 + (j - 2) = j by omega]; exact hown) hg hnew
  rw [if_pos (by omega), if_pos (by omega)] at this ⊢
  exact this
theorem PS.spc {b n k j : Nat} (hb : 16 ≤ b) (h : PS w tb seq b n k j pv sv wr) (h1 : b - 3 ≤ j) (h2 : j - (b - 3) < k)
    (hown : w4.ownsRow (w.heap.size + 3) 3 1 pv' (j - (b - 3) + 1) ((plainL b n (b - 3) (j - (b - 3))).map i64v ++ [i64v (plainAt b n j : Nat)])) (hg : wr.grownBy w4 sv.ownBlock) (hnew : ∀ g, pv'.ownBlock = some g → sv.ownBlock = some g ∨ wr.heap.size ≤ g) :
    PS w tb seq b n k (j + 1) pv pv' (w4.setCell ⟨tb, 2, none⟩ pv') := by
  have e1 : min (j - (b - 3)) k = j - (b - 3) := by omega
  have e2 : min (j + 1 - (b - 3)) k = j - (b - 3) + 1 := by omega
  have e3 : min (j + 1 - 2) (b - 5) = min (j - 2) (b - 5) := by omega
  unfold PS at h ⊢
  rw [e1] at h
  rw [e2, e3, plainL_succ]
  have := h.spare (x := ((plainAt b n (b - 3 + (j - (b - 3))) : Nat) : Int)) (w4 := w4) (pv' := pv') (by rw [plainL_length, List.map_append, show b - 3 + (j - (b - 3)) = j by omega]; exact hown) hg hnew
  rw [if_pos (by omega), if_pos (by omega)] at this ⊢
  exact this
theorem PS.done {b n k : Nat} (hb : 16 ≤ b) (hk : k < 4) (h : PS w tb seq b n k b pv sv wr) : TM w tb seq pv sv (plainT b n k seq).place (plainT b n k seq).spare (plainT b n k seq).t0 (plainT b n k seq).t1 wr := by
  unfold PS at h
  rw [show min (b - 2) (b - 5) = b - 5 by omega, show min (b - (b - 3)) k = k by omega, if_pos (by omega), if_pos (by omega)] at h
  exact h
end
theorem tmod_nat (x b : Nat) : (x : Int).tmod (b : Int) = ((x % b : Nat) : Int) := by
  rw [Int.tmod_eq_emod_of_nonneg (by omega)]; rfl

set_option maxRecDepth 100000 in
set_option maxHeartbeats 2000000 in
theorem plain_calls (c b p s : Nat) (turn spare : Int) (n k seq : Nat) (w : World) (hb : 16 ≤ b ∧ b ≤ 64) (hn : wrap64 ((IntKind.u64.wrap turn).tmod (b : Int)) = (n : Int)) (hk : wrap64 ((IntKind.u64.wrap spare).tmod 4) = (k : Int)) (hn2 : n < b) (hk2 : k < 4) (hsq : seq < 4294967296) :
    Calls Try.prog 29 #[geoV c b p s, .int .i64 turn, .int .i64 spare, .int .u32 seq] w fun e w' => ∃ vp vs, e = .returned (tabV (plainT b n k seq) vp vs) ∧ TabAt w' (plainT b n k seq) vp vs ∧ Below w.heap.size w w' := by
  obtain ⟨i, hi, hz0, hz1, hz2⟩ := info_parts infoI64
  obtain ⟨hb1, hb2⟩ := hb
  have hfin : ∀ vp vs w', TabAt w' (plainT b n k seq) vp vs → Below w.heap.size w w' → (fun (e : Ending) (w' : World) => ∃ vp vs, e = .returned (tabV (plainT b n k seq) vp vs) ∧ TabAt w' (plainT b n k seq) vp vs ∧ Below w.heap.size w w') (.returned (tabV (plainT b n k seq) vp vs)) w' := fun vp vs w' h1 h2 => ⟨vp, vs, rfl, h1, h2⟩
  generalize (fun (e : Ending) (w' : World) => ∃ vp vs, e = .returned (tabV (plainT b n k seq) vp vs) ∧ TabAt w' (plainT b n k seq) vp vs ∧ Below w.heap.size w w') = Post at hfin ⊢
  have HF := Lib.hid hfin
  obtain ⟨q, hq⟩ : ∃ q, q = w.heap.size := ⟨_, rfl⟩
  obtain ⟨w3, hw3⟩ : ∃ w3, w3 = ((w.alloc (.cells #[.int .i64 c, .int .i64 b, .int .i64 p, .int .i64 s] 28)).alloc (.cells #[.int .u32 0, .slice none 0 0, .slice none 0 0, .int .i64 0, .int .i64 0] 57)).alloc (.cells #[.int .u32 seq, .slice none 0 0, .slice none 0 0, .int .i64 0, .int .i64 0] 57) := ⟨_, rfl⟩
  have hb3 : Below w.heap.size w w3 := by rw [hw3]; exact (((Below.refl w.heap.size w).alloc (Nat.le_refl _) _).alloc (by simp) _).alloc (by simp; omega) _
  have g0 : w3.heap[q]? = some (.cells #[.int .i64 c, .int .i64 b, .int .i64 p, .int .i64 s] 28 (0, 0)) := by rw [hw3]; exact heap_old _ (heap_old _ (heap_is hq))
  have g1 : w3.heap[q + 1]? = some (.cells #[.int .u32 0, .slice none 0 0, .slice none 0 0, .int .i64 0, .int .i64 0] 57 (0, 0)) := by rw [hw3]; exact heap_old _ (heap_is (by simp [hq]))
  have g2 : w3.heap[q + 1 + 1]? = some (.cells #[.int .u32 seq, .slice none 0 0, .slice none 0 0, .int .i64 0, .int .i64 0] 57 (0, 0)) := by rw [hw3]; exact heap_is (by simp [hq])
  have hs3 : w3.heap.size = q + 3 := by rw [hw3]; simp [hq]
  have HW := Lib.hid hw3
  have HN := Lib.hid hn
  have HK := Lib.hid hk
  have hM0 : TM w (q + 1 + 1) seq (.slice none 0 0) (.slice none 0 0) [] [] 0 0 w3 := ⟨g2, World.ownsRow_nil _ _ _ _, World.ownsRow_nil _ _ _ _, fun g h => by simp [Value.ownBlock] at h, by omega, by omega, by omega⟩
  have HQ := Lib.hid (⟨hq, hs3, hb3, g0, g1⟩ : _ ∧ _ ∧ _ ∧ _ ∧ _)
  have H0 := Lib.hid hM0
  clear hfin hw3 hs3 hM0 hb3 g1 g2 hn hk
  have ew : IntKind.u64.wrap (b : Int) = (b : Int) := by rw [IntKind.wrap_u64]; omega
  go_enter Try.func29, Try.ntmps29
  go_upto_region 2 with (fail)
  rw [← HW.out, ← hq]
  have k1 := cells_at g0 1 _ rfl
  simp only [List.getElem_toArray, List.getElem_cons_succ, List.getElem_cons_zero] at k1
  have hlq := heap_lt g0
  clear hq g0 HW
  go_upto_region 4 with (fail)
  rw [HN.out, HK.out]
  clear ew k1 hlq HN HK
  go_wp2_with fail
  go_loopw [12] (fun i wr => ∃ (j : Nat) (pv sv : Value), j ≤ b ∧ i = .int .i64 j ∧ PS w (q + 1 + 1) seq b n k j pv sv wr ∧ Only (fun x => x = q + 1 + 1) w3 wr) (fun i _ => b - (intOf i).toNat)
  case atStart => exact ⟨0, _, _, Nat.zero_le _, rfl, by simpa [PS, plainL] using H0.out, Only.refl _ _⟩
  case round =>
    obtain ⟨j, pv, sv, hj, rfl, hM, hO⟩ := hrel
    have hG := hO.at HQ.out.2.2.2.1 (by omega)
    have k1 := cells_at hG 1 _ rfl
    simp only [List.getElem_toArray, List.getElem_cons_succ, List.getElem_cons_zero] at k1
    have hlq := heap_lt hG
    clear hG
    by_cases hjb : j < b
    · have hjb' : (j : Int) < (b : Int) := by omega
      obtain ⟨x, hx⟩ : ∃ x, x = plainAt b n j := ⟨_, rfl⟩
      have hxb : x < b := by rw [hx]; exact plainAt_lt b n j (by omega)
      obtain ⟨x1, hx1⟩ : ∃ y, y = (j * 5 + n) % b := ⟨_, rfl⟩
      obtain ⟨x2, hx2⟩ : ∃ y, y = (j + n) % b := ⟨_, rfl⟩
      have t1 : ((j : Int) * 5 + (n : Int)).tmod (b : Int) = (x1 : Int) := by
        have := tmod_nat (j * 5 + n) b
        rw [← hx1] at this
        rw [← this]; push_cast; rfl
      have t2 : ((j : Int) + (n : Int)).tmod (b : Int) = (x2 : Int) := by
        have := tmod_nat (j + n) b
        rw [← hx2] at this
        rw [← this]; push_cast; rfl
      have t5 : (b : Int) % 5 = ((b % 5 : Nat) : Int) := by omega
      have hsel : (b % 5 = 0 → x2 = x) ∧ (b % 5 ≠ 0 → x1 = x) := by
        refine ⟨fun h => ?_, fun h => ?_⟩
        · rw [hx, hx2]; unfold plainAt; rw [if_pos h]
        · rw [hx, hx1]; unfold plainAt; rw [if_neg h]
      have hbx := hM.box
      have c1 := cells_at hbx 1 _ rfl
      have c2 := cells_at hbx 2 _ rfl
      have c3 := cells_at hbx 3 _ rfl
      have c4 := cells_at hbx 4 _ rfl
      have f1 := froz_at hbx 1
      have f2 := froz_at hbx 2
      have f3 := froz_at hbx 3
      have f4 := froz_at hbx 4
      simp only [List.getElem_toArray, List.getElem_cons_succ, List.getElem_cons_zero] at c1 c2 c3 c4
      have hlb := heap_lt hbx
      have HM := Lib.hid (⟨hM, hO, hjb, hx⟩ : _ ∧ _ ∧ _ ∧ _)
      clear hx1 hx2 hM hO hx hbx
      obtain ⟨D, hD⟩ : ∃ D : Bool, (((b % 5 : Nat) : Int) == 0) = D := ⟨_, rfl⟩
      have hDx : x = (if D then x2 else x1) := by
        cases D with
        | true =>
          have : b % 5 = 0 := by have := hD; simp only [beq_iff_eq] at this; omega
          exact (hsel.1 this).symm
        | false =>
          have : b % 5 ≠ 0 := by have := hD; simp only [beq_eq_false_iff_ne] at this; omega
          exact (hsel.2 this).symm
      rw [← t5] at hD
      clear hsel t5
      cases D
      all_goals
        simp only [if_true, Bool.false_eq_true, if_false] at hDx
        subst hDx
        go_upto_region 10 with (fail)
        clear t1 t2 hD
        by_cases h2 : j < 2
        · have : j = 0 ∨ j = 1 := by omega
          rcases this with rfl | rfl
          · have hM2 := HM.out.1.t0 hb1
            have hO2 : Only (fun x => x = q + 1 + 1) w3 (wr.setCell ⟨q + 1 + 1, 3, none⟩ (.int .i64 (plainAt b n 0 : Nat))) := HM.out.2.1.set _ _ fun _ => rfl
            rw [← HM.out.2.2.2] at hM2 hO2
            have HZ := Lib.hid (⟨hM2, hO2⟩ : _ ∧ _)
            rw [show ((0 : Nat) : Int) = 0 from rfl]
            clear h2 hjb' hM2 hO2
            go_wp2_with fail
            go_roundw
            case rel => exact ⟨1, pv, sv, by omega, by go_num, HZ.out.1, HZ.out.2⟩
            case measure => simp [intOf]; omega
          · have hM2 := HM.out.1.t1 hb1
            have hO2 : Only (fun x => x = q + 1 + 1) w3 (wr.setCell ⟨q + 1 + 1, 4, none⟩ (.int .i64 (plainAt b n 1 : Nat))) := HM.out.2.1.set _ _ fun _ => rfl
            rw [← HM.out.2.2.2] at hM2 hO2
            have HZ := Lib.hid (⟨hM2, hO2⟩ : _ ∧ _)
            rw [show ((1 : Nat) : Int) = 1 from rfl]
            clear h2 hjb' hM2 hO2
            go_wp2_with fail
            go_roundw
            case rel => exact ⟨2, pv, sv, by omega, by go_num, HZ.out.1, HZ.out.2⟩
            case measure => simp [intOf]; omega
        · have h2' : ¬ (j : Int) < 2 := by omega
          by_cases h3 : j < b - 3
          · have h3' : (j : Int) < (b : Int) - 3 := by omega
            have hM3 : PS w (q + 1 + 1) seq b n k j pv sv (wr.alloc (.cells #[.int .i64 x] 3)) := TM.below HM.out.1 ((Below.refl wr.heap.size wr).alloc (Nat.le_refl _) _)
            have hown := hM3.po
            rw [show min (j - 2) (b - 5) = j - 2 by omega, plainL_length] at hown
            obtain ⟨pa, pk, rfl⟩ := own_slice hown
            have hrv : RV (wr.alloc (.cells #[.int .i64 x] 3)) (.slice (some ⟨wr.heap.size, 0, none⟩) 1 1) [i64v x] := RV.single _ _
            have hb4 := hM3.tbl.2.2
            have hbx4 := hM3.box
            have HM3 := Lib.hid (⟨hM3, HM.out.2.1.alloc (.cells #[.int .i64 x] 3), HM.out.2.2.1, HM.out.2.2.2⟩ : _ ∧ _ ∧ _ ∧ _)
            clear hM3 HM
            go_upto_region 13 with (fail)
            go_wp2_with (at_builtin; (refine wpList_append_row rfl _ _ 22 rfl (w.heap.size + 3) 3 i (.int .i64 0) 8 Try.underlying22 hi hz0 hz1 hz2 rfl _ _ _ rfl hown _ _ rfl hrv (one_cell rfl) ?c1 ?c2 ?c3 ?_))
            case c1 => (try simp only [List.length_cons, List.length_nil]); unfold maxLen; omega
            case c2 => (try simp only [List.length_cons, List.length_nil]); omega
            case c3 => first | exact hb4 | (simp at hb4 ⊢; omega)
            intro v' w4 hown4 hg4 hnew4
            have hM4 := HM3.out.1.plc hb1 (by omega) h3 (by rw [← HM3.out.2.2.2]; exact hown4) hg4 (fun g h => (hnew4 g h).imp_right fun h => by simpa using h)
            have hO4 : Only (fun x => x = q + 1 + 1) w3 (w4.setCell ⟨q + 1 + 1, 1, none⟩ v') := (HM3.out.2.1.trans (Only.of_grown hg4) fun y hy e => by have h1 := (hown.lt y e).1; have h2 := HQ.out.1; have h3 := HQ.out.2.1; omega).set _ _ fun _ => rfl
            have hbx5 := (Only.of_grown hg4).at hbx4 (fun e => by have h1 := (hown.lt _ e).1; have h2 := HQ.out.1; omega)
            obtain ⟨qa, qk, rfl⟩ := own_slice hown4
            have d1 := cells_at hbx5 1 _ rfl
            have e1 := froz_at hbx5 1
            simp only [List.getElem_toArray, List.getElem_cons_succ, List.getElem_cons_zero] at d1
            have hl5 := heap_lt hbx5
            have HZ := Lib.hid (⟨hM4, hO4, HM3.out.2.2.1⟩ : _ ∧ _ ∧ _)
            clear hM4 hO4 hown4 hg4 hnew4 hbx4 hbx5 hown hrv HM3 c1 c2 c3 c4 f1 f2 f3 f4 h2 h3
            go_wp2_with fail
            go_roundw
            case rel => exact ⟨j + 1, _, _, HZ.out.2.2, by go_num, HZ.out.1, HZ.out.2.1⟩
            case measure => have := HZ.out.2.2; simp [intOf]; omega
          · have h3' : ¬ (j : Int) < (b : Int) - 3 := by omega
            by_cases h4 : j - (b - 3) < k
            · have h4' : (j : Int) - ((b : Int) - 3) < (k : Int) := by omega
              have hM3 : PS w (q + 1 + 1) seq b n k j pv sv (wr.alloc (.cells #[.int .i64 x] 3)) := TM.below HM.out.1 ((Below.refl wr.heap.size wr).alloc (Nat.le_refl _) _)
              have hown := hM3.so
              rw [show min (j - (b - 3)) k = j - (b - 3) by omega, plainL_length] at hown
              obtain ⟨pa, pk, rfl⟩ := own_slice hown
              have hrv : RV (wr.alloc (.cells #[.int .i64 x] 3)) (.slice (some ⟨wr.heap.size, 0, none⟩) 1 1) [i64v x] := RV.single _ _
              have hb4 := hM3.tbl.2.2
              have hbx4 := hM3.box
              have HM3 := Lib.hid (⟨hM3, HM.out.2.1.alloc (.cells #[.int .i64 x] 3), HM.out.2.2.1, HM.out.2.2.2⟩ : _ ∧ _ ∧ _ ∧ _)
              clear hM3 HM
              go_upto_region 15 with (fail)
              go_wp2_with (at_builtin; (refine wpList_append_row rfl _ _ 22 rfl (w.heap.size + 3) 3 i (.int .i64 0) 8 Try.underlying22 hi hz0 hz1 hz2 rfl _ _ _ rfl hown _ _ rfl hrv (one_cell rfl) ?c1 ?c2 ?c3 ?_))
              case c1 => (try simp only [List.length_cons, List.length_nil]); unfold maxLen; omega
              case c2 => (try simp only [List.length_cons, List.length_nil]); omega
              case c3 => first | exact hb4 | (simp at hb4 ⊢; omega)
              intro v' w4 hown4 hg4 hnew4
              have hM4 := HM3.out.1.spc hb1 (by omega) h4 (by rw [← HM3.out.2.2.2]; exact hown4) hg4 (fun g h => (hnew4 g h).imp_right fun h => by simpa using h)
              have hO4 : Only (fun x => x = q + 1 + 1) w3 (w4.setCell ⟨q + 1 + 1, 2, none⟩ v') := (HM3.out.2.1.trans (Only.of_grown hg4) fun y hy e => by have h1 := (hown.lt y e).1; have h2 := HQ.out.1; have h3 := HQ.out.2.1; omega).set _ _ fun _ => rfl
              have hbx5 := (Only.of_grown hg4).at hbx4 (fun e => by have h1 := (hown.lt _ e).1; have h2 := HQ.out.1; omega)
              obtain ⟨qa, qk, rfl⟩ := own_slice hown4
              have d1 := cells_at hbx5 2 _ rfl
              have e1 := froz_at hbx5 2
              simp only [List.getElem_toArray, List.getElem_cons_succ, List.getElem_cons_zero] at d1
              have hl5 := heap_lt hbx5
              have HZ := Lib.hid (⟨hM4, hO4, HM3.out.2.2.1⟩ : _ ∧ _ ∧ _)
              clear hM4 hO4 hown4 hg4 hnew4 hbx4 hbx5 hown hrv HM3 c1 c2 c3 c4 f1 f2 f3 f4 h2 h3 h4
              go_wp2_with fail
              go_roundw
              case rel => exact ⟨j + 1, _, _, HZ.out.2.2, by go_num, HZ.out.1, HZ.out.2.1⟩
              case measure => have := HZ.out.2.2; simp [intOf]; omega
            · have h4' : ¬ (j : Int) - ((b : Int) - 3) < (k : Int) := by omega
              have hM2 := HM.out.1.skip hb1 (by omega) (by omega)
              have HZ := Lib.hid (⟨hM2, HM.out.2.1, HM.out.2.2.1⟩ : _ ∧ _ ∧ _)
              clear hM2 h2 h3 h4 HM
              go_wp2_with fail
              go_roundw
              case rel => exact ⟨j + 1, pv, sv, HZ.out.2.2, by go_num, HZ.out.1, HZ.out.2.1⟩
              case measure => have := HZ.out.2.2; simp [intOf]; omega
    · obtain rfl : j = b := by omega
      have hD := PS.done hb1 hk2 hM
      have hg1 := hO.at HQ.out.2.2.2.2 (by omega)
      have hbx := hD.box
      obtain ⟨pa, pk, rfl⟩ := own_slice hD.po
      obtain ⟨sa, sk, rfl⟩ := own_slice hD.so
      have c0 := cells_at hbx 0 _ rfl
      have c1 := cells_at hbx 1 _ rfl
      have c2 := cells_at hbx 2 _ rfl
      have c3 := cells_at hbx 3 _ rfl
      have c4 := cells_at hbx 4 _ rfl
      have e0 := cells_at hg1 0 _ rfl
      have e1 := cells_at hg1 1 _ rfl
      have e2 := cells_at hg1 2 _ rfl
      have e3 := cells_at hg1 3 _ rfl
      have e4 := cells_at hg1 4 _ rfl
      have f0 := froz_at hg1 0
      have f1 := froz_at hg1 1
      have f2 := froz_at hg1 2
      have f3 := froz_at hg1 3
      have f4 := froz_at hg1 4
      simp only [List.getElem_toArray, List.getElem_cons_succ, List.getElem_cons_zero] at c0 c1 c2 c3 c4 e0 e1 e2 e3 e4
      have hlb := heap_lt hbx
      have hlg := heap_lt hg1
      have hB := HQ.out.2.2.1.trans (hO.below HQ.out.2.2.1.size fun x hx h => by have := HQ.out.1; omega)
      have hplace : (plainT j n k seq).place.length = j - 5 := plainL_length _ _ _ _
      have hspare : (plainT j n k seq).spare.length = k := plainL_length _ _ _ _
      have hsq' : (plainT j n k seq).seq = seq := rfl
      generalize plainT j n k seq = T at hD hbx c0 c1 c2 c3 c4 HF hplace hspare hsq'
      have hon : Only (fun x => x = q + 1) wr (((((wr.setCell ⟨q + 1, 0, none⟩ (.int .u32 seq)).setCell ⟨q + 1, 1, none⟩ (.slice pa T.place.length pk)).setCell ⟨q + 1, 2, none⟩ (.slice sa T.spare.length sk)).setCell ⟨q + 1, 3, none⟩ (.int .i64 T.t0)).setCell ⟨q + 1, 4, none⟩ (.int .i64 T.t1)) :=
        ((((Only.of_set wr ⟨q + 1, 0, none⟩ (.int .u32 seq)).set ⟨q + 1, 1, none⟩ (.slice pa T.place.length pk) fun _ => rfl).set ⟨q + 1, 2, none⟩ (.slice sa T.spare.length sk) fun _ => rfl).set ⟨q + 1, 3, none⟩ (.int .i64 T.t0) fun _ => rfl).set ⟨q + 1, 4, none⟩ (.int .i64 T.t1) fun _ => rfl
      have hp := RV.own (own_only hD.po hon fun x hx e => by have h1 := (hD.po.lt x hx).1; have h2 := HQ.out.1; omega)
      have hs := RV.own (own_only hD.so hon fun x hx e => by have h1 := (hD.so.lt x hx).1; have h2 := HQ.out.1; omega)
      have hBB := put5 hB (q + 1) (.int .u32 seq) (.slice pa T.place.length pk) (.slice sa T.spare.length sk) (.int .i64 T.t0) (.int .i64 T.t1) (by have := HQ.out.1; omega)
      have hfin := HF.out _ _ _ ⟨hp, hs, by rw [hsq']; exact hsq⟩ hBB
      have hR := set5 (.int .u32 seq) (.slice pa T.place.length pk) (.slice sa T.spare.length sk) (.int .i64 T.t0) (.int .i64 T.t1) hg1
      unfold tabV Tb.cells at hfin
      rw [hsq', hplace, hspare] at hfin
      rw [hplace, hspare] at hR
      rw [hplace] at c1
      rw [hspare] at c2
      have HX := Lib.hid (⟨hfin, hR⟩ : _ ∧ _)
      clear hfin hR hBB hp hs hon hB hbx hg1 hD hO hM
      clear hplace hspare
      go_wp2_with fail
      refine bodyPost_ret (res_c rfl rfl HX.out.2 Try.underlying57 rfl (by kernel_rfl)) rfl HX.out.1
end Go.Proofs.Ytogejjbclimjjaa
