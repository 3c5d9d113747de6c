/- remap.Decode: what its closure reads. -/
--only r2
import Derived.Test.YtogejjbclimjjaaTabEnc
import Derived.Test.YtogejjbclimjjaaOpen
import Derived.Test.YtogejjbclimjjaaReaderZ
import Derived.Deep.DeepCutAuto
namespace Go.Proofs.Ytogejjbclimjjaa
set_option linter.unusedVariables false
set_option linter.unusedSimpArgs false
open Go.RowKit

def intsOf (l : List UInt8) : List Int := l.map fun c => (c.toNat : Int)
theorem intsOf_length (l : List UInt8) : (intsOf l).length = l.length := by simp [intsOf]
def getN (l : List UInt8) (k : Nat) : Nat := (l.getD k 0).toNat
def dN (l : List UInt8) : Nat := getN l 4
def dM (l : List UInt8) : Nat := getN l (5 + dN l)
def dEnd (l : List UInt8) : Nat := 6 + dN l + dM l
/-- do the bytes reach? -/
def dEnough (l : List UInt8) : Prop := dEnd l + 2 ≤ l.length
/-- the table that they are -/
def dTab (l : List UInt8) : Tb := ⟨leNum (l.take 4), intsOf ((l.drop 5).take (dN l)), intsOf ((l.drop (6 + dN l)).take (dM l)), getN l (dEnd l), getN l (dEnd l + 1)⟩
def dZero (l : List UInt8) : Bool := (l.drop (dEnd l + 2)).all (· == 0)

theorem getN_lt (l : List UInt8) (k : Nat) : getN l k < 256 := by unfold getN; exact (l.getD k 0).toNat_lt
theorem Rd.only {S : Nat → Prop} {w w' : World} {r : Nat} {v : Value} {l : List UInt8} {k : Nat} (h : Rd w r v l k) (hO : Only S w w') (hr : ¬ S r) (hn : ∀ b, b < w.heap.size → S b → NoByte w b) : Rd w' r v l k :=
  ⟨hO.at h.cell hr, h.rb.only hO hn, h.le⟩
theorem rU8_get (r k n : Nat) (v : Value) (l : List UInt8) (w : World) (h : Rd w r v l k) (hk : k < l.length) (hn : getN l k = n) :
    Calls Try.prog 45 #[ptrV r] w fun e w' => e = .returned (.int .u8 n) ∧ Rd w' r v l (k + 1) ∧ Only (fun b => b = r) w w' := by
  have h1 := rU8_ok r k v l w h (by omega)
  have e : leNum ((l.drop k).take 1) = getN l k := by
    have e1 : (l.drop k).take 1 = [l[k]] := by rw [List.drop_eq_getElem_cons hk]; rfl
    rw [e1]
    simp [leNum, getN, List.getD, hk]
  rw [e, hn] at h1
  exact h1
theorem intsOf_take (l : List UInt8) (a j n : Nat) (h : a + j < l.length) (hj : j < n) : intsOf (((l.drop a).take n).take (j + 1)) = intsOf (((l.drop a).take n).take j) ++ [(getN l (a + j) : Int)] := by
  have hl : j < ((l.drop a).take n).length := by simp; omega
  rw [List.take_succ_eq_append_getElem hl]
  unfold intsOf
  rw [List.map_append]
  congr 1
  simp [getN, List.getD, h]
theorem nb_u32 (n : Int) : NB (.int .u32 n) := fun _ => by simp

/-- where the reading of a table stands -/
structure DI (w : World) (r tb zb : Nat) (v : Value) (l : List UInt8) (k : Nat) (seq : Nat) (pv sv : Value) (pl sp : List Int) (wr : World) : Prop where
  rd : Rd wr r v l k
  box : wr.heap[tb]? = some (.cells #[.int .u32 seq, pv, sv, .int .i64 0, .int .i64 0] 57 (0, 0))
  z : wr.heap[zb]? = some (.cells #[.bool false] 4 (0, 0))
  po : wr.ownsRow w.heap.size 3 1 pv pl.length (pl.map i64v)
  so : wr.ownsRow w.heap.size 3 1 sv sp.length (sp.map i64v)
  ap : ∀ g, pv.ownBlock = some g → sv.ownBlock ≠ some g
  only : Only (fun x => x = r ∨ (x = tb ∨ x = zb)) w wr
section
variable {w wr w2 w3 w4 : World} {r tb zb : Nat} {v : Value} {l : List UInt8} {k k' : Nat} {seq : Nat} {pv sv pv' : Value} {pl sp : List Int} {x : Int}
theorem own_nb {w : World} {base e n : Nat} {v : Value} {xs : List Value} (h : w.ownsRow base e 1 v n xs) : NB v := by
  obtain ⟨a, k, rfl⟩ := own_slice h; exact nb_slice _ _ _
theorem DI.boxNB (h : DI w r tb zb v l k seq pv sv pl sp wr) : NoByte wr tb := noByte_of h.box fun o c hc => by
  have hm := Array.mem_of_getElem? hc
  simp only [List.mem_toArray, List.mem_cons, List.not_mem_nil, or_false] at hm
  rcases hm with e | e | e | e | e
  · exact nb_u32 _ c e.symm
  · exact own_nb h.po c e.symm
  · exact own_nb h.so c e.symm
  · exact nb_i64 _ c e.symm
  · exact nb_i64 _ c e.symm
/-- the reader goes on -/
theorem DI.read (h : DI w r tb zb v l k seq pv sv pl sp wr) (hr : r < w.heap.size) (ht : tb ≠ r) (hz : zb ≠ r) (hrd : Rd w2 r v l k') (hO : Only (fun b => b = r) wr w2) : DI w r tb zb v l k' seq pv sv pl sp w2 :=
  ⟨hrd, hO.at h.box ht, hO.at h.z hz, own_only h.po hO (fun b hb e => by have := (h.po.lt b hb).1; omega), own_only h.so hO (fun b hb e => by have := (h.so.lt b hb).1; omega), h.ap, h.only.trans hO fun b _ e => .inl e⟩
theorem DI.below (h : DI w r tb zb v l k seq pv sv pl sp wr) (hb : Below wr.heap.size wr w2) : DI w r tb zb v l k seq pv sv pl sp w2 :=
  ⟨h.rd.below hb, heap_keep hb h.box, heap_keep hb h.z, own_only h.po (Only.new hb fun _ => False) (fun _ _ => id), own_only h.so (Only.new hb fun _ => False) (fun _ _ => id), h.ap, h.only.trans (Only.new hb fun _ => False) fun _ _ => False.elim⟩
theorem DI.lt (h : DI w r tb zb v l k seq pv sv pl sp wr) : w.heap.size ≤ wr.heap.size := h.only.size
theorem DI.place (h : DI w r tb zb v l k seq pv sv pl sp wr) (hrb : ∀ w', Only (fun x => x = r ∨ (x = tb ∨ x = zb)) w w' → RB w' v l) (hr : r < w.heap.size) (ht : tb < w.heap.size) (hz : zb < w.heap.size) (htr : tb ≠ r) (htz : tb ≠ zb)
    (hown : w4.ownsRow w.heap.size 3 1 pv' (pl.length + 1) ((pl ++ [x]).map i64v)) (hg : wr.grownBy w4 pv.ownBlock) (hnew : ∀ g, pv'.ownBlock = some g → pv.ownBlock = some g ∨ wr.heap.size ≤ g) :
    DI w r tb zb v l k seq pv' sv (pl ++ [x]) sp (w4.setCell ⟨tb, 1, none⟩ pv') := by
  have hO := Only.of_grown hg
  have hsz := h.lt
  have hP : ∀ b, pv.ownBlock = some b → w.heap.size ≤ b := fun b hb => (h.po.lt b hb).1
  have hbox := hO.at h.box (fun e => by have := hP tb e; omega)
  have hset := set_at (o := 1) hbox pv'
  simp only [List.setIfInBounds_toArray, List.set_cons_zero, List.set_cons_succ] at hset
  have hz4 := set_other (a := ⟨tb, 1, none⟩) pv' (hO.at h.z (fun e => by have := hP zb e; omega)) (Ne.symm htz)
  have hrc := set_other (a := ⟨tb, 1, none⟩) pv' (hO.at h.rd.cell (fun e => by have := hP r e; omega)) (Ne.symm htr)
  have hon : Only (fun x => x = r ∨ (x = tb ∨ x = zb)) w (w4.setCell ⟨tb, 1, none⟩ pv') := (h.only.trans hO fun b hb e => by have := hP b e; omega).set _ _ fun _ => .inr (.inl rfl)
  have hown2 := own_only hown (Only.of_set w4 ⟨tb, 1, none⟩ pv') (fun b hb e => by have := (hown.lt b hb).1; have e : b = tb := e; omega)
  have hoth := own_only (own_only h.so hO (fun b hb e => h.ap b e hb)) (Only.of_set w4 ⟨tb, 1, none⟩ pv') (fun b hb e => by have := (h.so.lt b hb).1; have e : b = tb := e; omega)
  have hap : ∀ g, pv'.ownBlock = some g → sv.ownBlock ≠ some g := fun g hg' e => by
    rcases hnew g hg' with h1 | h1
    · exact h.ap g h1 e
    · have := (h.so.lt g e).2; omega
  exact ⟨⟨hrc, hrb _ hon, h.rd.le⟩, hset, hz4, by simpa using hown2, hoth, hap, hon⟩
theorem DI.spare (h : DI w r tb zb v l k seq pv sv pl sp wr) (hrb : ∀ w', Only (fun x => x = r ∨ (x = tb ∨ x = zb)) w w' → RB w' v l) (hr : r < w.heap.size) (ht : tb < w.heap.size) (hz : zb < w.heap.size) (htr : tb ≠ r) (htz : tb ≠ zb)
    (hown : w4.ownsRow w.heap.size 3 1 pv' (sp.length + 1) ((sp ++ [x]).map i64v)) (hg : wr.grownBy w4 sv.ownBlock) (hnew : ∀ g, pv'.ownBlock = some g → sv.ownBlock = some g ∨ wr.heap.size ≤ g) :
    DI w r tb zb v l k seq pv pv' pl (sp ++ [x]) (w4.setCell ⟨tb, 2, none⟩ pv') := by
  have hO := Only.of_grown hg
  have hsz := h.lt
  have hP : ∀ b, sv.ownBlock = some b → w.heap.size ≤ b := fun b hb => (h.so.lt b hb).1
  have hbox := hO.at h.box (fun e => by have := hP tb e; omega)
  have hset := set_at (o := 2) hbox pv'
  simp only [List.setIfInBounds_toArray, List.set_cons_zero, List.set_cons_succ] at hset
  have hz4 := set_other (a := ⟨tb, 2, none⟩) pv' (hO.at h.z (fun e => by have := hP zb e; omega)) (Ne.symm htz)
  have hrc := set_other (a := ⟨tb, 2, none⟩) pv' (hO.at h.rd.cell (fun e => by have := hP r e; omega)) (Ne.symm htr)
  have hon : Only (fun x => x = r ∨ (x = tb ∨ x = zb)) w (w4.setCell ⟨tb, 2, none⟩ pv') := (h.only.trans hO fun b hb e => by have := hP b e; omega).set _ _ fun _ => .inr (.inl rfl)
  have hown2 := own_only hown (Only.of_set w4 ⟨tb, 2, none⟩ pv') (fun b hb e => by have := (hown.lt b hb).1; have e : b = tb := e; omega)
  have hoth := own_only (own_only h.po hO (fun b hb e => h.ap b hb e)) (Only.of_set w4 ⟨tb, 2, none⟩ pv') (fun b hb e => by have := (h.po.lt b hb).1; have e : b = tb := e; omega)
  have hap : ∀ g, pv'.ownBlock = some g → pv.ownBlock ≠ some g := fun g hg' e => by
    rcases hnew g hg' with h1 | h1
    · exact h.ap g e h1
    · have := (h.po.lt g e).2; omega
  exact ⟨⟨hrc, hrb _ hon, h.rd.le⟩, hset, hz4, hoth, by simpa using hown2, fun g h1 h2 => hap g h2 h1, hon⟩
end

/-- what the closure leaves -/
def Dec1 (B tb zb : Nat) (l : List UInt8) (b : Bool) (w' : World) : Prop :=
  (b = true → dEnough l ∧ ∃ pv sv, w'.heap[tb]? = some (.cells ((dTab l).cells pv sv) 57 (0, 0)) ∧ w'.heap[zb]? = some (.cells #[.bool (dZero l)] 4 (0, 0)) ∧ w'.ownsRow B 3 1 pv (dTab l).place.length ((dTab l).place.map i64v) ∧ w'.ownsRow B 3 1 sv (dTab l).spare.length ((dTab l).spare.map i64v)) ∧ (b = false → ¬ dEnough l)
theorem Dec1.mono {B B' tb zb : Nat} {l : List UInt8} {b : Bool} {w : World} (h : Dec1 B tb zb l b w) (hB : B' ≤ B) : Dec1 B' tb zb l b w :=
  ⟨fun hb => by obtain ⟨h1, pv, sv, h2, h3, h4, h5⟩ := h.1 hb; exact ⟨h1, pv, sv, h2, h3, own_mono h4 hB, own_mono h5 hB⟩, h.2⟩

set_option maxRecDepth 100000 in
set_option maxHeartbeats 2000000 in
theorem dec1_calls (r tb zb : Nat) (v : Value) (l : List UInt8) (w : World) (hr : Rd w r v l 0) (ht : w.heap[tb]? = some (.cells #[.int .u32 0, .slice none 0 0, .slice none 0 0, .int .i64 0, .int .i64 0] 57 (0, 0))) (hz : w.heap[zb]? = some (.cells #[.bool false] 4 (0, 0))) (htr : tb ≠ r) (hzr : zb ≠ r) (htz : tb ≠ zb) :
    Calls Try.prog 64 #[ptrV r, ptrV tb, ptrV zb] w fun e w' => ∃ b : Bool, (if b then e = .returned (.tuple #[]) else ∃ k, e = shortPanic k) ∧ Dec1 w.heap.size tb zb l b w' ∧ Only (fun x => x = r ∨ (x = tb ∨ x = zb)) w w' := by
  obtain ⟨i, hi, hz0, hz1, hz2⟩ := info_parts infoI64
  have hno : ¬ dEnough l → ∀ k w', Only (fun x => x = r ∨ (x = tb ∨ x = zb)) w w' → (fun (e : Ending) (w' : World) => ∃ b : Bool, (if b then e = .returned (.tuple #[]) else ∃ k, e = shortPanic k) ∧ Dec1 w.heap.size tb zb l b w' ∧ Only (fun x => x = r ∨ (x = tb ∨ x = zb)) w w') (shortPanic k) w' := fun h k w' hO => ⟨false, ⟨k, rfl⟩, ⟨(fun h => by cases h), fun _ => h⟩, hO⟩
  have hyes : dEnough l → ∀ (pv sv : Value) (w' : World), w'.heap[tb]? = some (.cells ((dTab l).cells pv sv) 57 (0, 0)) → w'.heap[zb]? = some (.cells #[.bool (dZero l)] 4 (0, 0)) → w'.ownsRow w.heap.size 3 1 pv (dTab l).place.length ((dTab l).place.map i64v) → w'.ownsRow w.heap.size 3 1 sv (dTab l).spare.length ((dTab l).spare.map i64v) → Only (fun x => x = r ∨ (x = tb ∨ x = zb)) w w' → (fun (e : Ending) (w' : World) => ∃ b : Bool, (if b then e = .returned (.tuple #[]) else ∃ k, e = shortPanic k) ∧ Dec1 w.heap.size tb zb l b w' ∧ Only (fun x => x = r ∨ (x = tb ∨ x = zb)) w w') (.returned (.tuple #[])) w' := fun h pv sv w' h1 h2 h3 h4 hO => ⟨true, rfl, ⟨fun _ => ⟨h, pv, sv, h1, h2, h3, h4⟩, fun h => by cases h⟩, hO⟩
  generalize (fun (e : Ending) (w' : World) => ∃ b : Bool, (if b then e = .returned (.tuple #[]) else ∃ k, e = shortPanic k) ∧ Dec1 w.heap.size tb zb l b w' ∧ Only (fun x => x = r ∨ (x = tb ∨ x = zb)) w w') = Post at hno hyes ⊢
  have HNO := Lib.hid hno
  have HYES := Lib.hid hyes
  have hrl := heap_lt hr.cell
  have htl := heap_lt ht
  have hzl := heap_lt hz
  have hrb : ∀ w', Only (fun x => x = r ∨ (x = tb ∨ x = zb)) w w' → RB w' v l := fun w' hO => hr.rb.only hO fun b _ e => by
    rcases e with rfl | rfl | rfl
    · exact hr.noByte
    · exact noByte_of ht fun o c hc => by
        have hm := Array.mem_of_getElem? hc
        simp [u8v] at hm
    · exact noByte_of hz (nb1 (nb_bool _))
  have HRB := Lib.hid hrb
  have HL := Lib.hid (⟨hrl, htl, hzl, htr, hzr, htz⟩ : _ ∧ _ ∧ _ ∧ _ ∧ _ ∧ _)
  have hD0 : DI w r tb zb v l 0 0 (.slice none 0 0) (.slice none 0 0) [] [] w := ⟨hr, ht, hz, World.ownsRow_nil _ _ _ _, World.ownsRow_nil _ _ _ _, fun g h => by simp [Value.ownBlock] at h, Only.refl _ _⟩
  clear hno hyes hrb hrl htl hzl htr hzr htz
  go_enter Try.func64, Try.ntmps64
  by_cases h4 : l.length < 4
  · have hu := rU32_short r 0 v l w hr (by omega)
    have hno : ¬ dEnough l := fun h => by have := h; unfold dEnough dEnd at this; omega
    have HH := Lib.hid (⟨hu, hno⟩ : _ ∧ _)
    clear hu hno hr ht hz hD0 h4
    go_wp2_with fail
    refine HH.out.1.mono ?_
    rintro e w2 ⟨rfl, hb2⟩
    have HX := Lib.hid (HNO.out HH.out.2 0 w2 (Only.new hb2 _))
    ((try simp only [Exit.inBlock, Exit.then]); exact ⟨rfl, HX.out⟩)
  have hu := rU32_ok r 0 v l w hr (by omega)
  rw [List.drop_zero, Nat.zero_add] at hu
  obtain ⟨seq, hseq⟩ : ∃ s, s = leNum (l.take 4) := ⟨_, rfl⟩
  rw [← hseq] at hu
  have HH := Lib.hid (⟨hu, hD0⟩ : _ ∧ _)
  have HSQ := Lib.hid hseq
  have h4' : 4 ≤ l.length := by omega
  clear hu hr ht hz hD0 hseq h4
  go_wp2_with fail
  refine HH.out.1.mono ?_
  rintro e w1 ⟨rfl, hr1, hO1⟩
  have hD1 := HH.out.2.read HL.out.1 HL.out.2.2.2.1 HL.out.2.2.2.2.1 hr1 hO1
  have hbx1 := hD1.box
  have c0 := cells_at hbx1 0 _ rfl
  have f0 := froz_at hbx1 0
  simp only [List.getElem_toArray, List.getElem_cons_succ, List.getElem_cons_zero] at c0
  have hlb := heap_lt hbx1
  have hD2 : DI w r tb zb v l 4 seq (.slice none 0 0) (.slice none 0 0) [] [] (w1.setCell ⟨tb, 0, none⟩ (.int .u32 seq)) := by
    have hs := set_at (o := 0) hbx1 (.int .u32 seq)
    simp only [List.setIfInBounds_toArray, List.set_cons_zero, List.set_cons_succ] at hs
    have hon : Only (fun x => x = r ∨ (x = tb ∨ x = zb)) w (w1.setCell ⟨tb, 0, none⟩ (.int .u32 seq)) := hD1.only.set _ _ fun _ => .inr (.inl rfl)
    exact ⟨⟨set_other _ hD1.rd.cell (fun e => HL.out.2.2.2.1 e.symm), HRB.out _ hon, hD1.rd.le⟩, hs, set_other _ hD1.z (fun e => HL.out.2.2.2.2.2 e.symm), World.ownsRow_nil _ _ _ _, World.ownsRow_nil _ _ _ _, fun g h => by simp [Value.ownBlock] at h, hon⟩
  have H2 := Lib.hid hD2
  clear hr1 hO1 hD1 hbx1 hD2 HH
  go_upto_region 1 with (fail)
  clear c0 f0 hlb
  generalize w1.setCell ⟨tb, 0, none⟩ (.int .u32 seq) = w2 at H2 ⊢
  by_cases h5 : 4 < l.length
  rotate_left
  · have hu := rU8_short r 4 v l w2 H2.out.rd (by omega)
    have hno : ¬ dEnough l := fun h => by have := h; unfold dEnough dEnd at this; omega
    have HH := Lib.hid (⟨hu, hno⟩ : _ ∧ _)
    clear hu hno h5
    go_wp2_with fail
    refine HH.out.1.mono ?_
    rintro e w3 ⟨rfl, hb3⟩
    have HX := Lib.hid (HNO.out HH.out.2 4 w3 (H2.out.only.trans (Only.new hb3 fun _ => False) fun _ _ => False.elim))
    ((try simp only [Exit.inBlock, Exit.then]); exact ⟨rfl, HX.out⟩)
  have hn256 := getN_lt l 4
  obtain ⟨n, hn⟩ : ∃ n, n = dN l := ⟨_, rfl⟩
  have hu := rU8_get r 4 n v l w2 H2.out.rd h5 hn.symm
  have hn2 : n < 256 := by rw [hn]; exact hn256
  have e1 : IntKind.i64.wrap (n : Int) = (n : Int) := IntWalk.i64_in _ ⟨by omega, by omega⟩
  have HU := Lib.hid hu
  have HNN := Lib.hid hn
  clear hu hn hn256
  go_wp2_with fail
  refine HU.out.mono ?_
  rintro e w3 ⟨rfl, hr3, hO3⟩
  have hD3 := H2.out.read HL.out.1 HL.out.2.2.2.1 HL.out.2.2.2.2.1 hr3 hO3
  have H3 := Lib.hid hD3
  clear hr3 hO3 hD3 HU H2
  go_wp2_with fail
  clear e1
  -- loop 1
  go_loopw [10] (fun i wr => ∃ (j : Nat) (pv sv : Value), j ≤ n ∧ i = .int .i64 j ∧ DI w r tb zb v l (5 + j) seq pv sv (intsOf (((l.drop 5).take n).take j)) [] wr ∧ 5 + j ≤ l.length) (fun i _ => n - (intOf i).toNat)
  case atStart => exact ⟨0, _, _, Nat.zero_le _, rfl, by simpa [intsOf] using H3.out, by omega⟩
  case round =>
    clear H3
    obtain ⟨j, pv, sv, hj, rfl, hD, hjl⟩ := hrel
    by_cases hlt : j < n
    · have hlt' : (j : Int) < (n : Int) := by omega
      have hbx := hD.box
      have hltb := heap_lt hbx
      have b1 : ∀ w' : World, w'.heap[tb]? = some (.cells #[.int .u32 seq, pv, sv, .int .i64 0, .int .i64 0] 57 (0, 0)) → w'.cell? ⟨tb, 1, none⟩ = some pv := fun w' h => cells_at h 1 _ rfl
      by_cases hs : 5 + j < l.length
      · obtain ⟨x, hx⟩ : ∃ x, getN l (5 + j) = x := ⟨_, rfl⟩
        have hx256 := getN_lt l (5 + j)
        rw [hx] at hx256
        have e1 : IntKind.i64.wrap (x : Int) = (x : Int) := IntWalk.i64_in _ ⟨by omega, by omega⟩
        have hnx := intsOf_take l (5) j (n) hs hlt
        rw [hx] at hnx
        have hu := rU8_get r (5 + j) x v l wr.drew (hD.below (Below.refl _ _).drew).rd hs hx
        have HH := Lib.hid (⟨hu, hD, hs, hlt, hnx⟩ : _ ∧ _ ∧ _ ∧ _ ∧ _)
        clear hu hD hs hlt hnx hx
        go_wp2_with fail
        (refine wp_region_mix [0, 1, 2, 3, 4, 5, 6, 7, 8] [(true, true), (true, false), (true, true), (false, true), (true, true), (false, true), (false, false), (true, true), (false, false)] [0, 1, 0, 4, 12, 28, 63, 127, 255] (fun w' => w'.heap[tb]? = some (.cells #[.int .u32 seq, pv, sv, .int .i64 0, .int .i64 0] 57 (0, 0))) (by kernel_rfl) (by kernel_rfl) ?_ ?_; rotate_left; simp only [pickL, List.map_cons, List.map_nil, List.getD_cons_succ, List.getD_cons_zero])
        rotate_left
        focus exact hbx
        (repeat (first | (refine mix_pure (fun hne K hK => ?_); go_simp; refine hK _ ?_; clear hK K hne) | (refine mix_load ?_ (fun K hK => ?_); (focus (first | rfl | (go_simp; done))); apply Exists.intro; apply And.intro; (focus (intro w' hC; go_simp; exact rfl)); go_simp; refine hK _ ?_; clear hK K) | (refine mix_skip ?_ (fun K hK => ?_); (focus (first | rfl | (go_simp; done))); go_simp; refine hK _ ?_; clear hK K)))
        (refine mix_one (by first | rfl | (go_simp; done)) (fun R hR hX => ?_))
        go_wp2_with fail
        refine HH.out.1.mono ?_
        rintro e w2 ⟨rfl, hr2, hO2⟩
        obtain ⟨-, hD, hs, hlt, hnx⟩ := HH.out
        have hD2 := (hD.below (Below.refl _ _).drew).read HL.out.1 HL.out.2.2.2.1 HL.out.2.2.2.2.1 hr2 hO2
        have hbx2 := hD2.box
        have H2 := Lib.hid (⟨hD2, hs, hlt, hnx⟩ : _ ∧ _ ∧ _ ∧ _)
        clear hr2 hO2 hD hs hlt hnx hD2 HH
        go_wp2_with fail
        refine hR _ _ rfl ⟨_, hbx2, (fun _ => rfl), ?_⟩
        clear hR hX R
        (repeat (first | (refine mix_pure (fun hne K hK => ?_); go_simp; refine hK _ ?_; clear hK K hne) | (refine mix_load ?_ (fun K hK => ?_); (focus (first | rfl | (go_simp; done))); apply Exists.intro; apply And.intro; (focus (intro w' hC; go_simp; exact rfl)); go_simp; refine hK _ ?_; clear hK K) | (refine mix_skip ?_ (fun K hK => ?_); (focus (first | rfl | (go_simp; done))); go_simp; refine hK _ ?_; clear hK K)))
        (refine mix_one (by first | rfl | (go_simp; done)) (fun R hR hX => ?_))
        have hbx3 := heap_keep ((Below.refl w2.heap.size w2).alloc (Nat.le_refl _) (.cells #[.int .i64 x] 3)) hbx2
        go_wp2_with fail
        refine hR _ _ rfl ⟨_, hbx3, (fun _ => rfl), ?_⟩
        clear hR hX R
        (refine mix_one (by first | rfl | (go_simp; done)) (fun R hR hX => ?_))
        have hD3 := H2.out.1.below ((Below.refl w2.heap.size w2).alloc (Nat.le_refl _) (.cells #[.int .i64 x] 3))
        have hown := hD3.po
        have hrv : RV (w2.alloc (.cells #[.int .i64 x] 3)) (.slice (some ⟨w2.heap.size, 0, none⟩) 1 1) [i64v x] := RV.single _ _
        have hb3 := hD3.lt
        have hlen : (intsOf (((l.drop (5)).take (n)).take j)).length ≤ 255 := by rw [intsOf_length]; simp; omega
        obtain ⟨pa, pk, rfl⟩ := own_slice hown
        have HD3 := Lib.hid hD3
        clear hD3
        go_wp2_with (at_builtin; (refine wpList_append_row rfl _ _ 22 rfl w.heap.size 3 i (.int .i64 0) 8 Try.underlying22 hi hz0 hz1 hz2 rfl _ _ _ rfl hown _ _ rfl hrv (one_cell rfl) ?c1 ?c2 ?c3 ?_))
        case c1 => (try simp only [List.length_cons, List.length_nil]); unfold maxLen; omega
        case c2 => (try simp only [List.length_cons, List.length_nil]); omega
        case c3 => first | exact hb3 | (simp at hb3 ⊢; omega)
        intro v' w4 hown4 hg4 hnew4
        have hown5 : w4.ownsRow w.heap.size 3 1 v' ((intsOf (((l.drop (5)).take (n)).take j)).length + 1) ((intsOf (((l.drop (5)).take (n)).take j) ++ [(x : Int)]).map i64v) := by
          rw [List.map_append]; exact hown4
        have hD5 := HD3.out.place HRB.out HL.out.1 HL.out.2.1 HL.out.2.2.1 HL.out.2.2.2.1 HL.out.2.2.2.2.2 hown5 hg4 (fun g h => (hnew4 g h).imp_right fun h => by simpa using h)
        have hbx4 := (Only.of_grown hg4).at HD3.out.box (fun e => by have := (HD3.out.po.lt tb e).1; have := HL.out.2.1; omega)
        obtain ⟨qa, qk, rfl⟩ := own_slice hown5
        have f1 := cells_at hbx4 1 _ rfl
        have g1 := froz_at hbx4 1
        simp only [List.getElem_toArray, List.getElem_cons_succ, List.getElem_cons_zero] at f1
        have hlt4 := heap_lt hbx4
        have H5 := Lib.hid (⟨hD5, H2.out.2.1, H2.out.2.2.1, H2.out.2.2.2⟩ : _ ∧ _ ∧ _ ∧ _)
        clear hown4 hown5 hg4 hnew4 hD5 hbx4 hbx3 hbx2 hbx hown hrv HD3 H2 b1
        go_wp2_with fail
        (try simp only [wpList]); refine hR _ _ rfl ⟨fun w' => w' = _, rfl, (fun h => by cases h), ?_⟩; clear hR hX R
        (repeat (first | (refine mix_pure (fun hne K hK => ?_); go_simp; refine hK _ ?_; clear hK K hne) | (refine mix_load ?_ (fun K hK => ?_); (focus (first | rfl | (go_simp; done))); go_simp; refine hK _ ?_; clear hK K) | (refine mix_skip ?_ (fun K hK => ?_); (focus (first | rfl | (go_simp; done))); go_simp; refine hK _ ?_; clear hK K)))
        (refine mix_one (by first | rfl | (go_simp; done)) (fun R hR hX => ?_))
        go_wp2_with fail
        ((try simp only [wpList]); refine hR _ _ rfl ⟨fun w' => w' = _, rfl, (fun h => by cases h), ?_⟩; clear hR hX R)
        refine mix_done ?_
        clear f1 g1
        go_wp2_with fail
        obtain ⟨hD5, hs, hlt, hnx⟩ := H5.out
        go_roundw
        case rel => exact ⟨j + 1, _, _, hlt, by go_num, by rw [hnx]; exact hD5, by omega⟩
        case measure => simp [intOf]; omega
      · have hu := rU8_short r (5 + j) v l wr.drew (hD.below (Below.refl _ _).drew).rd (by omega)
        have hno : ¬ dEnough l := fun h => by have := h; unfold dEnough dEnd at this; rw [← HNN.out] at this; omega
        have HH := Lib.hid (⟨hu, hD, hno⟩ : _ ∧ _ ∧ _)
        clear hu hD hs hlt hno
        go_wp2_with fail
        (refine wp_region_mix [0, 1, 2, 3, 4, 5, 6, 7, 8] [(true, true), (true, false), (true, true), (false, true), (true, true), (false, true), (false, false), (true, true), (false, false)] [0, 1, 0, 4, 12, 28, 63, 127, 255] (fun w' => w'.heap[tb]? = some (.cells #[.int .u32 seq, pv, sv, .int .i64 0, .int .i64 0] 57 (0, 0))) (by kernel_rfl) (by kernel_rfl) ?_ ?_; rotate_left; simp only [pickL, List.map_cons, List.map_nil, List.getD_cons_succ, List.getD_cons_zero])
        rotate_left
        focus exact hbx
        (repeat (first | (refine mix_pure (fun hne K hK => ?_); go_simp; refine hK _ ?_; clear hK K hne) | (refine mix_load ?_ (fun K hK => ?_); (focus (first | rfl | (go_simp; done))); apply Exists.intro; apply And.intro; (focus (intro w' hC; go_simp; exact rfl)); go_simp; refine hK _ ?_; clear hK K) | (refine mix_skip ?_ (fun K hK => ?_); (focus (first | rfl | (go_simp; done))); go_simp; refine hK _ ?_; clear hK K)))
        (refine mix_one (by first | rfl | (go_simp; done)) (fun R hR hX => ?_))
        go_wp2_with fail
        refine HH.out.1.mono ?_
        rintro e w2 ⟨rfl, hb2⟩
        obtain ⟨-, hD, hno⟩ := HH.out
        have HX := Lib.hid (HNO.out hno (5 + j) w2 (hD.only.trans (Only.new ((Below.refl _ _).drew.trans hb2) fun _ => False) fun _ _ => False.elim))
        refine hX _ _ _ (by simp) (fun a'' ha'' => ?_)
        ((try simp only [Exit.inBlock, Exit.then]); exact ⟨ha'', HX.out⟩)
    · obtain rfl : n = j := by omega
      have htt : ((l.drop 5).take n).take n = (l.drop 5).take n := by rw [List.take_take, Nat.min_self]
      rw [htt] at hD
      have H4 := Lib.hid (⟨hD, hjl⟩ : _ ∧ _)
      clear hD hjl htt
      generalize wr = w4 at H4 ⊢
      by_cases h6 : 5 + n < l.length
      rotate_left
      · have hu := rU8_short r (5 + n) v l w4 H4.out.1.rd (by omega)
        have hno : ¬ dEnough l := fun h => by have := h; unfold dEnough dEnd at this; rw [← HNN.out] at this; omega
        have HH := Lib.hid (⟨hu, hno⟩ : _ ∧ _)
        clear hu hno h6
        go_wp2_with fail
        refine HH.out.1.mono ?_
        rintro e w5 ⟨rfl, hb5⟩
        have HX := Lib.hid (HNO.out HH.out.2 (5 + n) w5 (H4.out.1.only.trans (Only.new hb5 fun _ => False) fun _ _ => False.elim))
        ((try simp only [Exit.inBlock, Exit.then]); exact ⟨rfl, HX.out⟩)
      have hm256 := getN_lt l (5 + n)
      obtain ⟨m, hm⟩ : ∃ m, m = dM l := ⟨_, rfl⟩
      have hm0 : getN l (5 + n) = m := by rw [hm]; unfold dM; rw [← HNN.out]
      have hu := rU8_get r (5 + n) m v l w4 H4.out.1.rd h6 hm0
      have hm2 : m < 256 := by rw [← hm0]; exact hm256
      have e1 : IntKind.i64.wrap (m : Int) = (m : Int) := IntWalk.i64_in _ ⟨by omega, by omega⟩
      have HU := Lib.hid hu
      have HMM := Lib.hid hm
      clear hu hm hm0 hm256
      go_wp2_with fail
      refine HU.out.mono ?_
      rintro e w5 ⟨rfl, hr5, hO5⟩
      have hD5 := H4.out.1.read HL.out.1 HL.out.2.2.2.1 HL.out.2.2.2.2.1 hr5 hO5
      have H5 := Lib.hid hD5
      obtain ⟨P, hP⟩ : ∃ P, P = intsOf ((l.drop 5).take n) := ⟨_, rfl⟩
      rw [← hP] at H5
      have HP := Lib.hid hP
      clear hr5 hO5 hD5 HU H4 hP
      go_wp2_with fail
      clear e1
      -- loop 2
      go_loopw [24] (fun i wr => ∃ (j : Nat) (pv sv : Value), j ≤ m ∧ i = .int .i64 j ∧ DI w r tb zb v l (6 + n + j) seq pv sv P (intsOf (((l.drop (6 + n)).take m).take j)) wr ∧ 6 + n + j ≤ l.length) (fun i _ => m - (intOf i).toNat)
      case atStart => exact ⟨0, _, _, Nat.zero_le _, rfl, by have := H5.out; simpa [intsOf, Nat.add_comm, Nat.add_left_comm, Nat.add_assoc] using this, by omega⟩
      case round =>
        clear H5
        obtain ⟨j, pv, sv, hj, rfl, hD, hjl⟩ := hrel
        by_cases hlt : j < m
        · have hlt' : (j : Int) < (m : Int) := by omega
          have hbx := hD.box
          have hltb := heap_lt hbx
          have b1 : ∀ w' : World, w'.heap[tb]? = some (.cells #[.int .u32 seq, pv, sv, .int .i64 0, .int .i64 0] 57 (0, 0)) → w'.cell? ⟨tb, 2, none⟩ = some sv := fun w' h => cells_at h 2 _ rfl
          by_cases hs : 6 + n + j < l.length
          · obtain ⟨x, hx⟩ : ∃ x, getN l (6 + n + j) = x := ⟨_, rfl⟩
            have hx256 := getN_lt l (6 + n + j)
            rw [hx] at hx256
            have e1 : IntKind.i64.wrap (x : Int) = (x : Int) := IntWalk.i64_in _ ⟨by omega, by omega⟩
            have hnx := intsOf_take l (6 + n) j (m) hs hlt
            rw [hx] at hnx
            have hu := rU8_get r (6 + n + j) x v l wr.drew (hD.below (Below.refl _ _).drew).rd hs hx
            have HH := Lib.hid (⟨hu, hD, hs, hlt, hnx⟩ : _ ∧ _ ∧ _ ∧ _ ∧ _)
            clear hu hD hs hlt hnx hx
            go_wp2_with fail
            (refine wp_region_mix [0, 1, 2, 3, 4, 5, 6, 7, 8] [(true, true), (true, false), (true, true), (false, true), (true, true), (false, true), (false, false), (true, true), (false, false)] [0, 1, 0, 4, 12, 28, 63, 127, 255] (fun w' => w'.heap[tb]? = some (.cells #[.int .u32 seq, pv, sv, .int .i64 0, .int .i64 0] 57 (0, 0))) (by kernel_rfl) (by kernel_rfl) ?_ ?_; rotate_left; simp only [pickL, List.map_cons, List.map_nil, List.getD_cons_succ, List.getD_cons_zero])
            rotate_left
            focus exact hbx
            (repeat (first | (refine mix_pure (fun hne K hK => ?_); go_simp; refine hK _ ?_; clear hK K hne) | (refine mix_load ?_ (fun K hK => ?_); (focus (first | rfl | (go_simp; done))); apply Exists.intro; apply And.intro; (focus (intro w' hC; go_simp; exact rfl)); go_simp; refine hK _ ?_; clear hK K) | (refine mix_skip ?_ (fun K hK => ?_); (focus (first | rfl | (go_simp; done))); go_simp; refine hK _ ?_; clear hK K)))
            (refine mix_one (by first | rfl | (go_simp; done)) (fun R hR hX => ?_))
            go_wp2_with fail
            refine HH.out.1.mono ?_
            rintro e w2 ⟨rfl, hr2, hO2⟩
            obtain ⟨-, hD, hs, hlt, hnx⟩ := HH.out
            have hD2 := (hD.below (Below.refl _ _).drew).read HL.out.1 HL.out.2.2.2.1 HL.out.2.2.2.2.1 hr2 hO2
            have hbx2 := hD2.box
            have H2 := Lib.hid (⟨hD2, hs, hlt, hnx⟩ : _ ∧ _ ∧ _ ∧ _)
            clear hr2 hO2 hD hs hlt hnx hD2 HH
            go_wp2_with fail
            refine hR _ _ rfl ⟨_, hbx2, (fun _ => rfl), ?_⟩
            clear hR hX R
            (repeat (first | (refine mix_pure (fun hne K hK => ?_); go_simp; refine hK _ ?_; clear hK K hne) | (refine mix_load ?_ (fun K hK => ?_); (focus (first | rfl | (go_simp; done))); apply Exists.intro; apply And.intro; (focus (intro w' hC; go_simp; exact rfl)); go_simp; refine hK _ ?_; clear hK K) | (refine mix_skip ?_ (fun K hK => ?_); (focus (first | rfl | (go_simp; done))); go_simp; refine hK _ ?_; clear hK K)))
            (refine mix_one (by first | rfl | (go_simp; done)) (fun R hR hX => ?_))
            have hbx3 := heap_keep ((Below.refl w2.heap.size w2).alloc (Nat.le_refl _) (.cells #[.int .i64 x] 3)) hbx2
            go_wp2_with fail
            refine hR _ _ rfl ⟨_, hbx3, (fun _ => rfl), ?_⟩
            clear hR hX R
            (refine mix_one (by first | rfl | (go_simp; done)) (fun R hR hX => ?_))
            have hD3 := H2.out.1.below ((Below.refl w2.heap.size w2).alloc (Nat.le_refl _) (.cells #[.int .i64 x] 3))
            have hown := hD3.so
            have hrv : RV (w2.alloc (.cells #[.int .i64 x] 3)) (.slice (some ⟨w2.heap.size, 0, none⟩) 1 1) [i64v x] := RV.single _ _
            have hb3 := hD3.lt
            have hlen : (intsOf (((l.drop (6 + n)).take (m)).take j)).length ≤ 255 := by rw [intsOf_length]; simp; omega
            obtain ⟨pa, pk, rfl⟩ := own_slice hown
            have HD3 := Lib.hid hD3
            clear hD3
            go_wp2_with (at_builtin; (refine wpList_append_row rfl _ _ 22 rfl w.heap.size 3 i (.int .i64 0) 8 Try.underlying22 hi hz0 hz1 hz2 rfl _ _ _ rfl hown _ _ rfl hrv (one_cell rfl) ?c1 ?c2 ?c3 ?_))
            case c1 => (try simp only [List.length_cons, List.length_nil]); unfold maxLen; omega
            case c2 => (try simp only [List.length_cons, List.length_nil]); omega
            case c3 => first | exact hb3 | (simp at hb3 ⊢; omega)
            intro v' w4 hown4 hg4 hnew4
            have hown5 : w4.ownsRow w.heap.size 3 1 v' ((intsOf (((l.drop (6 + n)).take (m)).take j)).length + 1) ((intsOf (((l.drop (6 + n)).take (m)).take j) ++ [(x : Int)]).map i64v) := by
              rw [List.map_append]; exact hown4
            have hD5 := HD3.out.spare HRB.out HL.out.1 HL.out.2.1 HL.out.2.2.1 HL.out.2.2.2.1 HL.out.2.2.2.2.2 hown5 hg4 (fun g h => (hnew4 g h).imp_right fun h => by simpa using h)
            have hbx4 := (Only.of_grown hg4).at HD3.out.box (fun e => by have := (HD3.out.so.lt tb e).1; have := HL.out.2.1; omega)
            obtain ⟨qa, qk, rfl⟩ := own_slice hown5
            have f1 := cells_at hbx4 2 _ rfl
            have g1 := froz_at hbx4 2
            simp only [List.getElem_toArray, List.getElem_cons_succ, List.getElem_cons_zero] at f1
            have hlt4 := heap_lt hbx4
            have H5 := Lib.hid (⟨hD5, H2.out.2.1, H2.out.2.2.1, H2.out.2.2.2⟩ : _ ∧ _ ∧ _ ∧ _)
            clear hown4 hown5 hg4 hnew4 hD5 hbx4 hbx3 hbx2 hbx hown hrv HD3 H2 b1
            go_wp2_with fail
            (try simp only [wpList]); refine hR _ _ rfl ⟨fun w' => w' = _, rfl, (fun h => by cases h), ?_⟩; clear hR hX R
            (repeat (first | (refine mix_pure (fun hne K hK => ?_); go_simp; refine hK _ ?_; clear hK K hne) | (refine mix_load ?_ (fun K hK => ?_); (focus (first | rfl | (go_simp; done))); go_simp; refine hK _ ?_; clear hK K) | (refine mix_skip ?_ (fun K hK => ?_); (focus (first | rfl | (go_simp; done))); go_simp; refine hK _ ?_; clear hK K)))
            (refine mix_one (by first | rfl | (go_simp; done)) (fun R hR hX => ?_))
            go_wp2_with fail
            ((try simp only [wpList]); refine hR _ _ rfl ⟨fun w' => w' = _, rfl, (fun h => by cases h), ?_⟩; clear hR hX R)
            refine mix_done ?_
            clear f1 g1
            go_wp2_with fail
            obtain ⟨hD5, hs, hlt, hnx⟩ := H5.out
            go_roundw
            case rel => exact ⟨j + 1, _, _, hlt, by go_num, by rw [hnx]; exact hD5, by omega⟩
            case measure => simp [intOf]; omega
          · have hu := rU8_short r (6 + n + j) v l wr.drew (hD.below (Below.refl _ _).drew).rd (by omega)
            have hno : ¬ dEnough l := fun h => by have := h; unfold dEnough dEnd at this; rw [← HNN.out, ← HMM.out] at this; omega
            have HH := Lib.hid (⟨hu, hD, hno⟩ : _ ∧ _ ∧ _)
            clear hu hD hs hlt hno
            go_wp2_with fail
            (refine wp_region_mix [0, 1, 2, 3, 4, 5, 6, 7, 8] [(true, true), (true, false), (true, true), (false, true), (true, true), (false, true), (false, false), (true, true), (false, false)] [0, 1, 0, 4, 12, 28, 63, 127, 255] (fun w' => w'.heap[tb]? = some (.cells #[.int .u32 seq, pv, sv, .int .i64 0, .int .i64 0] 57 (0, 0))) (by kernel_rfl) (by kernel_rfl) ?_ ?_; rotate_left; simp only [pickL, List.map_cons, List.map_nil, List.getD_cons_succ, List.getD_cons_zero])
            rotate_left
            focus exact hbx
            (repeat (first | (refine mix_pure (fun hne K hK => ?_); go_simp; refine hK _ ?_; clear hK K hne) | (refine mix_load ?_ (fun K hK => ?_); (focus (first | rfl | (go_simp; done))); apply Exists.intro; apply And.intro; (focus (intro w' hC; go_simp; exact rfl)); go_simp; refine hK _ ?_; clear hK K) | (refine mix_skip ?_ (fun K hK => ?_); (focus (first | rfl | (go_simp; done))); go_simp; refine hK _ ?_; clear hK K)))
            (refine mix_one (by first | rfl | (go_simp; done)) (fun R hR hX => ?_))
            go_wp2_with fail
            refine HH.out.1.mono ?_
            rintro e w2 ⟨rfl, hb2⟩
            obtain ⟨-, hD, hno⟩ := HH.out
            have HX := Lib.hid (HNO.out hno (6 + n + j) w2 (hD.only.trans (Only.new ((Below.refl _ _).drew.trans hb2) fun _ => False) fun _ _ => False.elim))
            refine hX _ _ _ (by simp) (fun a'' ha'' => ?_)
            ((try simp only [Exit.inBlock, Exit.then]); exact ⟨ha'', HX.out⟩)
        · obtain rfl : m = j := by omega
          have htt : ((l.drop (6 + n)).take m).take m = (l.drop (6 + n)).take m := by rw [List.take_take, Nat.min_self]
          rw [htt] at hD
          have H6 := Lib.hid (⟨hD, hjl⟩ : _ ∧ _)
          clear hD hjl htt
          generalize wr = w6 at H6 ⊢
          have hend : dEnd l = 6 + n + m := by unfold dEnd; rw [← HNN.out, ← HMM.out]
          have HEND := Lib.hid hend
          clear hend
          by_cases h7 : 6 + n + m < l.length
          rotate_left
          · have hu := rU8_short r (6 + n + m) v l w6 H6.out.1.rd (by omega)
            have hno : ¬ dEnough l := fun h => by have := h; unfold dEnough at this; rw [HEND.out] at this; omega
            have HH := Lib.hid (⟨hu, hno⟩ : _ ∧ _)
            clear hu hno h7
            go_wp2_with fail
            refine HH.out.1.mono ?_
            rintro e w7 ⟨rfl, hb7⟩
            have HX := Lib.hid (HNO.out HH.out.2 (6 + n + m) w7 (H6.out.1.only.trans (Only.new hb7 fun _ => False) fun _ _ => False.elim))
            ((try simp only [Exit.inBlock, Exit.then]); exact ⟨rfl, HX.out⟩)
          obtain ⟨x0, hx0⟩ : ∃ x, getN l (6 + n + m) = x := ⟨_, rfl⟩
          have hx256 := getN_lt l (6 + n + m)
          rw [hx0] at hx256
          have hu := rU8_get r (6 + n + m) x0 v l w6 H6.out.1.rd h7 hx0
          have e1 : IntKind.i64.wrap (x0 : Int) = (x0 : Int) := IntWalk.i64_in _ ⟨by omega, by omega⟩
          have HU := Lib.hid (⟨hu, hx0, h7⟩ : _ ∧ _ ∧ _)
          clear hu hx0 h7
          go_wp2_with fail
          refine HU.out.1.mono ?_
          rintro e w7 ⟨rfl, hr7, hO7⟩
          have hD7 := H6.out.1.read HL.out.1 HL.out.2.2.2.1 HL.out.2.2.2.2.1 hr7 hO7
          have H7 := Lib.hid hD7
          clear hr7 hO7 hD7 H6
          by_cases h8 : 6 + n + m + 1 < l.length
          rotate_left
          · have hu := rU8_short r (6 + n + m + 1) v l w7 H7.out.rd (by omega)
            have hno : ¬ dEnough l := fun h => by have := h; unfold dEnough at this; rw [HEND.out] at this; omega
            have HH := Lib.hid (⟨hu, hno⟩ : _ ∧ _)
            clear hu hno h8
            go_wp2_with fail
            refine HH.out.1.mono ?_
            rintro e w8 ⟨rfl, hb8⟩
            have HX := Lib.hid (HNO.out HH.out.2 (6 + n + m + 1) w8 (H7.out.only.trans (Only.new hb8 fun _ => False) fun _ _ => False.elim))
            ((try simp only [Exit.inBlock, Exit.then]); exact ⟨rfl, HX.out⟩)
          obtain ⟨x1, hx1⟩ : ∃ x, getN l (6 + n + m + 1) = x := ⟨_, rfl⟩
          have hy256 := getN_lt l (6 + n + m + 1)
          rw [hx1] at hy256
          have hu := rU8_get r (6 + n + m + 1) x1 v l w7 H7.out.rd h8 hx1
          have e2 : IntKind.i64.wrap (x1 : Int) = (x1 : Int) := IntWalk.i64_in _ ⟨by omega, by omega⟩
          have HU2 := Lib.hid (⟨hu, hx1, h8⟩ : _ ∧ _ ∧ _)
          clear hu hx1 h8
          go_wp2_with fail
          refine HU2.out.1.mono ?_
          rintro e w8 ⟨rfl, hr8, hO8⟩
          have hD8 := H7.out.read HL.out.1 HL.out.2.2.2.1 HL.out.2.2.2.2.1 hr8 hO8
          have hbx8 := hD8.box
          have c3 := cells_at hbx8 3 _ rfl
          have c4 := cells_at hbx8 4 _ rfl
          have f3 := froz_at hbx8 3
          have f4 := froz_at hbx8 4
          simp only [List.getElem_toArray, List.getElem_cons_succ, List.getElem_cons_zero] at c3 c4
          have hlb := heap_lt hbx8
          have hset : ((w8.setCell ⟨tb, 3, none⟩ (.int .i64 x0)).setCell ⟨tb, 4, none⟩ (.int .i64 x1)).heap[tb]? = some (.cells #[.int .u32 seq, pv, sv, .int .i64 x0, .int .i64 x1] 57 (0, 0)) := by
            have s3 := set_at (o := 3) hbx8 (.int .i64 x0)
            simp only [List.setIfInBounds_toArray, List.set_cons_zero, List.set_cons_succ] at s3
            have s4 := set_at (o := 4) s3 (.int .i64 x1)
            simp only [List.setIfInBounds_toArray, List.set_cons_zero, List.set_cons_succ] at s4
            exact s4
          have hon : Only (fun x => x = r ∨ (x = tb ∨ x = zb)) w ((w8.setCell ⟨tb, 3, none⟩ (.int .i64 x0)).setCell ⟨tb, 4, none⟩ (.int .i64 x1)) := (hD8.only.set _ _ fun _ => .inr (.inl rfl)).set _ _ fun _ => .inr (.inl rfl)
          have ho2 : Only (fun x => x = tb) w8 ((w8.setCell ⟨tb, 3, none⟩ (.int .i64 x0)).setCell ⟨tb, 4, none⟩ (.int .i64 x1)) := (Only.of_set w8 ⟨tb, 3, none⟩ (.int .i64 x0)).set _ _ fun _ => rfl
          have hrd : Rd ((w8.setCell ⟨tb, 3, none⟩ (.int .i64 x0)).setCell ⟨tb, 4, none⟩ (.int .i64 x1)) r v l (6 + n + m + 1 + 1) := ⟨ho2.at hD8.rd.cell (fun e => HL.out.2.2.2.1 e.symm), HRB.out _ hon, hD8.rd.le⟩
          have hz9 := ho2.at hD8.z (fun e => HL.out.2.2.2.2.2 e.symm)
          have hpo := own_only hD8.po ho2 (fun b hb e => by have := (hD8.po.lt b hb).1; have := HL.out.2.1; omega)
          have hso := own_only hD8.so ho2 (fun b hb e => by have := (hD8.so.lt b hb).1; have := HL.out.2.1; omega)
          have hzc := rZero_calls r (6 + n + m + 1 + 1) v l _ hrd
          have H8 := Lib.hid (⟨hset, hon, hz9, hpo, hso, hzc⟩ : _ ∧ _ ∧ _ ∧ _ ∧ _ ∧ _)
          clear hr8 hO8 hD8 hbx8 hset hon ho2 hrd hz9 hpo hso hzc H7
          go_upto_region 10 with (fail)
          clear c3 c4 f3 f4 hlb e1 e2
          generalize (w8.setCell ⟨tb, 3, none⟩ (.int .i64 x0)).setCell ⟨tb, 4, none⟩ (.int .i64 x1) = w9 at H8 ⊢
          go_wp2_with fail
          refine H8.out.2.2.2.2.2.mono ?_
          rintro e w10 ⟨rfl, hb10⟩
          obtain ⟨hset, hon, hz9, hpo, hso, -⟩ := H8.out
          have hz10 := heap_keep hb10 hz9
          have z0 := cells_at hz10 0 _ rfl
          have g0 := froz_at hz10 0
          simp only [List.getElem_toArray, List.getElem_cons_zero] at z0
          have hlz := heap_lt hz10
          have hdz : (l.drop (6 + n + m + 1 + 1)).all (· == 0) = dZero l := by unfold dZero; rw [HEND.out]
          have hok : dEnough l := by unfold dEnough; rw [HEND.out]; have := HU2.out.2.2; omega
          have hfin := HYES.out hok pv sv (w10.setCell ⟨zb, 0, none⟩ (.bool (dZero l)))
            (by
              have := set_other (a := ⟨zb, 0, none⟩) (.bool (dZero l)) (heap_keep hb10 hset) HL.out.2.2.2.2.2
              rw [this]
              unfold dTab Tb.cells
              simp only
              rw [HEND.out, HU.out.2.1, HU2.out.2.1, ← HSQ.out])
            (by have := set_at (o := 0) hz10 (.bool (dZero l)); simpa using this)
            (by
              have := own_only (own_only hpo (Only.new hb10 fun _ => False) (fun _ _ => id)) (Only.of_set w10 ⟨zb, 0, none⟩ (.bool (dZero l))) (fun b hb e => by have := (hpo.lt b hb).1; have := HL.out.2.2.1; have e : b = zb := e; omega)
              unfold dTab
              rw [← HNN.out, ← HP.out]
              exact this)
            (by
              have := own_only (own_only hso (Only.new hb10 fun _ => False) (fun _ _ => id)) (Only.of_set w10 ⟨zb, 0, none⟩ (.bool (dZero l))) (fun b hb e => by have := (hso.lt b hb).1; have := HL.out.2.2.1; have e : b = zb := e; omega)
              unfold dTab
              rw [← HNN.out, ← HMM.out]
              exact this)
            ((hon.trans (Only.new hb10 fun _ => False) fun _ _ => False.elim).set _ _ fun _ => .inr (.inr rfl))
          have HX := Lib.hid hfin
          rw [hdz]
          clear hset hon hz9 hpo hso hz10 hdz hok hfin hb10 H8
          generalize dZero l = dz at *
          go_wp2_with fail
          ((try simp only [Exit.inBlock, Exit.then]); (first | refine bodyPost_end (results_none rfl _ _ _) rfl ?_ | refine bodyPost_ret (results_none rfl _ _ _) rfl ?_))
          exact HX.out

end Go.Proofs.Ytogejjbclimjjaa
