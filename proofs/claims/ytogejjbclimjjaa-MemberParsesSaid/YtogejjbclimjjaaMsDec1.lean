/- member.Parse: what its closure reads. -/
--only r2
import Derived.Test.YtogejjbclimjjaaMemSpec
import Derived.Test.YtogejjbclimjjaaTabDec1
namespace Go.Proofs.Ytogejjbclimjjaa
set_option linter.unusedVariables false
set_option linter.unusedSimpArgs false
open Go.RowKit

def mN (l : List UInt8) : Nat := getN l 4
def mU (l : List UInt8) (k : Nat) : Nat := leNum ((l.drop k).take 2)
/-- the set that bytes are -/
def mSet (l : List UInt8) : Ms := ⟨leNum (l.take 4), intsOf ((l.drop 5).take (mN l)), getN l (5 + mN l), getN l (6 + mN l), getN l (7 + mN l)⟩
/-- are they one, of a shape, with a number? -/
def mRead (b p s ep : Nat) (l : List UInt8) : Prop :=
  14 + mN l ≤ l.length ∧ mU l (8 + mN l) = b ∧ mU l (10 + mN l) = p ∧ mU l (12 + mN l) = s ∧ (l.drop (14 + mN l)).all (· == 0) = true ∧ leNum (l.take 4) = ep

/-- where the reading of a set stands -/
structure MI (w : World) (r tb zb : Nat) (v : Value) (l : List UInt8) (k : Nat) (seq : Nat) (cv : Value) (cl : List Int) (sp dd dn : Int) (wr : World) : Prop where
  rd : Rd wr r v l k
  box : wr.heap[tb]? = some (.cells #[.int .u32 seq, cv, .int .i64 sp, .int .i64 dd, .int .i64 dn] 37 (0, 0))
  z : wr.heap[zb]? = some (.cells #[.bool false] 4 (0, 0))
  po : wr.ownsRow w.heap.size 3 1 cv cl.length (cl.map i64v)
  only : Only (fun x => x = r ∨ (x = tb ∨ x = zb)) w wr
section
variable {w wr w2 w3 w4 : World} {r tb zb : Nat} {v : Value} {l : List UInt8} {k k' : Nat} {seq : Nat} {cv cv' : Value} {cl : List Int} {sp dd dn x : Int}
/-- the reader goes on -/
theorem MI.read (h : MI w r tb zb v l k seq cv cl sp dd dn wr) (hr : r < w.heap.size) (ht : tb ≠ r) (hz : zb ≠ r) (hrd : Rd w2 r v l k') (hO : Only (fun b => b = r) wr w2) : MI w r tb zb v l k' seq cv cl sp dd dn w2 :=
  ⟨hrd, hO.at h.box ht, hO.at h.z hz, own_only h.po hO (fun b hb e => by have := (h.po.lt b hb).1; omega), h.only.trans hO fun b _ e => .inl e⟩
theorem MI.below (h : MI w r tb zb v l k seq cv cl sp dd dn wr) (hb : Below wr.heap.size wr w2) : MI w r tb zb v l k seq cv cl sp dd dn w2 :=
  ⟨h.rd.below hb, heap_keep hb h.box, heap_keep hb h.z, own_only h.po (Only.new hb fun _ => False) (fun _ _ => id), h.only.trans (Only.new hb fun _ => False) fun _ _ => False.elim⟩
theorem MI.lt (h : MI w r tb zb v l k seq cv cl sp dd dn wr) : w.heap.size ≤ wr.heap.size := h.only.size
theorem MI.chip (h : MI w r tb zb v l k seq cv cl sp dd dn wr) (hrb : ∀ w', Only (fun x => x = r ∨ (x = tb ∨ x = zb)) w w' → RB w' v l) (hr : r < w.heap.size) (ht : tb < w.heap.size) (hz : zb < w.heap.size) (htr : tb ≠ r) (htz : tb ≠ zb)
    (hown : w4.ownsRow w.heap.size 3 1 cv' (cl.length + 1) ((cl ++ [x]).map i64v)) (hg : wr.grownBy w4 cv.ownBlock) :
    MI w r tb zb v l k seq cv' (cl ++ [x]) sp dd dn (w4.setCell ⟨tb, 1, none⟩ cv') := by
  have hO := Only.of_grown hg
  have hsz := h.lt
  have hP : ∀ b, cv.ownBlock = some b → w.heap.size ≤ b := fun b hb => (h.po.lt b hb).1
  have hbox := hO.at h.box (fun e => by have := hP tb e; omega)
  have hset := set_at (o := 1) hbox cv'
  simp only [List.setIfInBounds_toArray, List.set_cons_zero, List.set_cons_succ] at hset
  have hz4 := set_other (a := ⟨tb, 1, none⟩) cv' (hO.at h.z (fun e => by have := hP zb e; omega)) (Ne.symm htz)
  have hrc := set_other (a := ⟨tb, 1, none⟩) cv' (hO.at h.rd.cell (fun e => by have := hP r e; omega)) (Ne.symm htr)
  have hon : Only (fun x => x = r ∨ (x = tb ∨ x = zb)) w (w4.setCell ⟨tb, 1, none⟩ cv') := (h.only.trans hO fun b hb e => by have := hP b e; omega).set _ _ fun _ => .inr (.inl rfl)
  have hown2 := own_only hown (Only.of_set w4 ⟨tb, 1, none⟩ cv') (fun b hb e => by have := (hown.lt b hb).1; have e : b = tb := e; omega)
  exact ⟨⟨hrc, hrb _ hon, h.rd.le⟩, hset, hz4, by simpa using hown2, hon⟩
/-- the last three are laid -/
theorem MI.three (h : MI w r tb zb v l k seq cv cl sp dd dn wr) (hrb : ∀ w', Only (fun x => x = r ∨ (x = tb ∨ x = zb)) w w' → RB w' v l) (ht : tb < w.heap.size) (htr : tb ≠ r) (htz : tb ≠ zb) (a b c : Int) :
    MI w r tb zb v l k seq cv cl a b c (((wr.setCell ⟨tb, 2, none⟩ (.int .i64 a)).setCell ⟨tb, 3, none⟩ (.int .i64 b)).setCell ⟨tb, 4, none⟩ (.int .i64 c)) := by
  have ho2 : Only (fun x => x = tb) wr (((wr.setCell ⟨tb, 2, none⟩ (.int .i64 a)).setCell ⟨tb, 3, none⟩ (.int .i64 b)).setCell ⟨tb, 4, none⟩ (.int .i64 c)) := ((Only.of_set wr ⟨tb, 2, none⟩ (.int .i64 a)).set ⟨tb, 3, none⟩ (.int .i64 b) fun _ => rfl).set ⟨tb, 4, none⟩ (.int .i64 c) fun _ => rfl
  have hon := h.only.trans ho2 fun b _ e => .inr (.inl e)
  have s2 := set_at (o := 2) h.box (.int .i64 a)
  simp only [List.setIfInBounds_toArray, List.set_cons_zero, List.set_cons_succ] at s2
  have s3 := set_at (o := 3) s2 (.int .i64 b)
  simp only [List.setIfInBounds_toArray, List.set_cons_zero, List.set_cons_succ] at s3
  have s4 := set_at (o := 4) s3 (.int .i64 c)
  simp only [List.setIfInBounds_toArray, List.set_cons_zero, List.set_cons_succ] at s4
  exact ⟨⟨ho2.at h.rd.cell (fun e => htr e.symm), hrb _ hon, h.rd.le⟩, s4, ho2.at h.z (fun e => htz e.symm), own_only h.po ho2 (fun b hb e => by have := (h.po.lt b hb).1; omega), hon⟩
end

/-- what the closure leaves -/
def MDec1 (B tb zb b p s ep : Nat) (l : List UInt8) (ok : Bool) (w' : World) : Prop :=
  (ok = true → ∃ rt : Bool, w'.heap[zb]? = some (.cells #[.bool rt] 4 (0, 0)) ∧ (rt = true ↔ mRead b p s ep l) ∧ (rt = true → ∃ cv, w'.heap[tb]? = some (.cells ((mSet l).cells cv) 37 (0, 0)) ∧ w'.ownsRow B 3 1 cv (mSet l).chips.length ((mSet l).chips.map i64v))) ∧ (ok = false → ¬ mRead b p s ep l)
theorem MDec1.mono {B B' tb zb b p s ep : Nat} {l : List UInt8} {ok : Bool} {w : World} (h : MDec1 B tb zb b p s ep l ok w) (hB : B' ≤ B) : MDec1 B' tb zb b p s ep l ok w :=
  ⟨fun hb => by
    obtain ⟨rt, h1, h2, h3⟩ := h.1 hb
    exact ⟨rt, h1, h2, fun e => by obtain ⟨cv, h4, h5⟩ := h3 e; exact ⟨cv, h4, own_mono h5 hB⟩⟩, h.2⟩
def MDecEnds (w : World) (r tb zb b p s ep : Nat) (l : List UInt8) (e : Ending) (w' : World) : Prop :=
  ∃ ok : Bool, (if ok then e = .returned (.tuple #[]) else ∃ k, e = shortPanic k) ∧ MDec1 w.heap.size tb zb b p s ep l ok w' ∧ Only (fun x => x = r ∨ (x = tb ∨ x = zb)) w w'

set_option maxRecDepth 100000 in
set_option maxHeartbeats 4000000 in
theorem mdec1_calls (r tb gb hb zb n0 b p s ep : Nat) (hc : Array Value) (v : Value) (l : List UInt8) (w : World) (hr : Rd w r v l 0) (ht : w.heap[tb]? = some (.cells #[.int .u32 0, .slice none 0 0, .int .i64 0, .int .i64 0, .int .i64 0] 37 (0, 0))) (hz : w.heap[zb]? = some (.cells #[.bool false] 4 (0, 0)))
    (hg : w.heap[gb]? = some (.cells #[.int .i64 n0, .int .i64 b, .int .i64 p, .int .i64 s] 28 (0, 0))) (hh : w.heap[hb]? = some (.cells hc 98 (0, 0))) (hep : hc[1]? = some (.int .u32 ep)) (htr : tb ≠ r) (hzr : zb ≠ r) (htz : tb ≠ zb) (hgn : gb ≠ r ∧ gb ≠ tb ∧ gb ≠ zb) (hhn : hb ≠ r ∧ hb ≠ tb ∧ hb ≠ zb) :
    Calls Try.prog 43 #[ptrV r, ptrV tb, ptrV gb, ptrV hb, ptrV zb] w (MDecEnds w r tb zb b p s ep l) := by
  obtain ⟨i, hi, hz0, hz1, hz2⟩ := info_parts infoI64
  have hno : ¬ mRead b p s ep l → ∀ k w', Only (fun x => x = r ∨ (x = tb ∨ x = zb)) w w' → MDecEnds w r tb zb b p s ep l (shortPanic k) w' := fun h k w' hO => ⟨false, ⟨k, rfl⟩, ⟨(fun h => by cases h), fun _ => h⟩, hO⟩
  have hyes : ∀ (rt : Bool) (w' : World), w'.heap[zb]? = some (.cells #[.bool rt] 4 (0, 0)) → (rt = true ↔ mRead b p s ep l) → (rt = true → ∃ cv, w'.heap[tb]? = some (.cells ((mSet l).cells cv) 37 (0, 0)) ∧ w'.ownsRow w.heap.size 3 1 cv (mSet l).chips.length ((mSet l).chips.map i64v)) → Only (fun x => x = r ∨ (x = tb ∨ x = zb)) w w' → MDecEnds w r tb zb b p s ep l (.returned (.tuple #[])) w' := fun rt w' h1 h2 h3 hO => ⟨true, rfl, ⟨fun _ => ⟨rt, h1, h2, h3⟩, fun h => by cases h⟩, hO⟩
  generalize MDecEnds w r tb zb b p s ep l = Post at hno hyes ⊢
  have HNO := Lib.hid hno
  have HYES := Lib.hid hyes
  have hrl := heap_lt hr.cell
  have htl := heap_lt ht
  have hzl := heap_lt hz
  have hrb : ∀ w', Only (fun x => x = r ∨ (x = tb ∨ x = zb)) w w' → RB w' v l := fun w' hO => hr.rb.only hO fun b _ e => by
    rcases e with rfl | rfl | rfl
    · exact hr.noByte
    · exact noByte_of ht fun o c hc => by
        have hm := Array.mem_of_getElem? hc
        simp [u8v] at hm
    · exact noByte_of hz (nb1 (nb_bool _))
  have HRB := Lib.hid hrb
  have HL := Lib.hid (⟨hrl, htl, hzl, htr, hzr, htz⟩ : _ ∧ _ ∧ _ ∧ _ ∧ _ ∧ _)
  have HGH := Lib.hid (⟨hg, hh, hep, hgn, hhn⟩ : _ ∧ _ ∧ _ ∧ _ ∧ _)
  have hD0 : MI w r tb zb v l 0 0 (.slice none 0 0) [] 0 0 0 w := ⟨hr, ht, hz, World.ownsRow_nil _ _ _ _, Only.refl _ _⟩
  clear hno hyes hrb hrl htl hzl htr hzr htz hg hh hep hgn hhn
  go_enter Try.func43, Try.ntmps43
  by_cases h4 : l.length < 4
  · have hu := rU32_short r 0 v l w hr (by omega)
    have hno : ¬ mRead b p s ep l := fun h => by have := h.1; omega
    have HH := Lib.hid (⟨hu, hno⟩ : _ ∧ _)
    clear hu hno hr ht hz hD0 h4
    go_wp2_with fail
    refine HH.out.1.mono ?_
    rintro e w2 ⟨rfl, hb2⟩
    have HX := Lib.hid (HNO.out HH.out.2 0 w2 (Only.new hb2 _))
    ((try simp only [Exit.inBlock, Exit.then]); exact ⟨rfl, HX.out⟩)
  have hu := rU32_ok r 0 v l w hr (by omega)
  rw [List.drop_zero, Nat.zero_add] at hu
  obtain ⟨seq, hseq⟩ : ∃ s, s = leNum (l.take 4) := ⟨_, rfl⟩
  rw [← hseq] at hu
  have HH := Lib.hid (⟨hu, hD0⟩ : _ ∧ _)
  have HSQ := Lib.hid hseq
  have h4' : 4 ≤ l.length := by omega
  clear hu hr ht hz hD0 hseq h4
  go_wp2_with fail
  refine HH.out.1.mono ?_
  rintro e w1 ⟨rfl, hr1, hO1⟩
  have hD1 := HH.out.2.read HL.out.1 HL.out.2.2.2.1 HL.out.2.2.2.2.1 hr1 hO1
  have hbx1 := hD1.box
  have c0 := cells_at hbx1 0 _ rfl
  have f0 := froz_at hbx1 0
  simp only [List.getElem_toArray, List.getElem_cons_succ, List.getElem_cons_zero] at c0
  have hlb := heap_lt hbx1
  have hD2 : MI w r tb zb v l 4 seq (.slice none 0 0) [] 0 0 0 (w1.setCell ⟨tb, 0, none⟩ (.int .u32 seq)) := by
    have hs := set_at (o := 0) hbx1 (.int .u32 seq)
    simp only [List.setIfInBounds_toArray, List.set_cons_zero, List.set_cons_succ] at hs
    have hon : Only (fun x => x = r ∨ (x = tb ∨ x = zb)) w (w1.setCell ⟨tb, 0, none⟩ (.int .u32 seq)) := hD1.only.set _ _ fun _ => .inr (.inl rfl)
    exact ⟨⟨set_other _ hD1.rd.cell (fun e => HL.out.2.2.2.1 e.symm), HRB.out _ hon, hD1.rd.le⟩, hs, set_other _ hD1.z (fun e => HL.out.2.2.2.2.2 e.symm), World.ownsRow_nil _ _ _ _, hon⟩
  have H2 := Lib.hid hD2
  clear hr1 hO1 hD1 hbx1 hD2 HH
  go_upto_region 1 with (fail)
  clear c0 f0 hlb
  generalize w1.setCell ⟨tb, 0, none⟩ (.int .u32 seq) = w2 at H2 ⊢
  by_cases h5 : 4 < l.length
  rotate_left
  · have hu := rU8_short r 4 v l w2 H2.out.rd (by omega)
    have hno : ¬ mRead b p s ep l := fun h => by have := h.1; omega
    have HH := Lib.hid (⟨hu, hno⟩ : _ ∧ _)
    clear hu hno h5
    go_wp2_with fail
    refine HH.out.1.mono ?_
    rintro e w3 ⟨rfl, hb3⟩
    have HX := Lib.hid (HNO.out HH.out.2 4 w3 (H2.out.only.trans (Only.new hb3 fun _ => False) fun _ _ => False.elim))
    ((try simp only [Exit.inBlock, Exit.then]); exact ⟨rfl, HX.out⟩)
  have hn256 := getN_lt l 4
  obtain ⟨n, hn⟩ : ∃ n, n = mN l := ⟨_, rfl⟩
  have hu := rU8_get r 4 n v l w2 H2.out.rd h5 hn.symm
  have hn2 : n < 256 := by rw [hn]; exact hn256
  have e1 : IntKind.i64.wrap (n : Int) = (n : Int) := IntWalk.i64_in _ ⟨by omega, by omega⟩
  have HU := Lib.hid hu
  have HNN := Lib.hid hn
  clear hu hn hn256
  go_wp2_with fail
  refine HU.out.mono ?_
  rintro e w3 ⟨rfl, hr3, hO3⟩
  have hD3 := H2.out.read HL.out.1 HL.out.2.2.2.1 HL.out.2.2.2.2.1 hr3 hO3
  have H3 := Lib.hid hD3
  clear hr3 hO3 hD3 HU H2
  go_wp2_with fail
  clear e1
  -- loop 1
  go_loopw [12] (fun i wr => ∃ (j : Nat) (cv : Value), j ≤ n ∧ i = .int .i64 j ∧ MI w r tb zb v l (5 + j) seq cv (intsOf (((l.drop 5).take n).take j)) 0 0 0 wr ∧ 5 + j ≤ l.length) (fun i _ => n - (intOf i).toNat)
  case atStart => exact ⟨0, _, Nat.zero_le _, rfl, by simpa [intsOf] using H3.out, by omega⟩
  case round =>
    clear H3
    obtain ⟨j, cv, hj, rfl, hD, hjl⟩ := hrel
    by_cases hlt : j < n
    · have hlt' : (j : Int) < (n : Int) := by omega
      have hbx := hD.box
      have hltb := heap_lt hbx
      have b1 : ∀ w' : World, w'.heap[tb]? = some (.cells #[.int .u32 seq, cv, .int .i64 0, .int .i64 0, .int .i64 0] 37 (0, 0)) → w'.cell? ⟨tb, 1, none⟩ = some cv := fun w' h => cells_at h 1 _ rfl
      by_cases hs : 5 + j < l.length
      · obtain ⟨x, hx⟩ : ∃ x, getN l (5 + j) = x := ⟨_, rfl⟩
        have hx256 := getN_lt l (5 + j)
        rw [hx] at hx256
        have e1 : IntKind.i64.wrap (x : Int) = (x : Int) := IntWalk.i64_in _ ⟨by omega, by omega⟩
        have hnx := intsOf_take l (5) j (n) hs hlt
        rw [hx] at hnx
        have hu := rU8_get r (5 + j) x v l wr.drew (hD.below (Below.refl _ _).drew).rd hs hx
        have HH := Lib.hid (⟨hu, hD, hs, hlt, hnx⟩ : _ ∧ _ ∧ _ ∧ _ ∧ _)
        clear hu hD hs hlt hnx hx
        go_wp2_with fail
        (refine wp_region_mix [0, 1, 2, 3, 4, 5, 6, 7, 8] [(true, true), (true, false), (true, true), (false, true), (true, true), (false, true), (false, false), (true, true), (false, false)] [0, 1, 0, 4, 12, 28, 63, 127, 255] (fun w' => w'.heap[tb]? = some (.cells #[.int .u32 seq, cv, .int .i64 0, .int .i64 0, .int .i64 0] 37 (0, 0))) (by kernel_rfl) (by kernel_rfl) ?_ ?_; rotate_left; simp only [pickL, List.map_cons, List.map_nil, List.getD_cons_succ, List.getD_cons_zero])
        rotate_left
        focus exact hbx
        (repeat (first | (refine mix_pure (fun hne K hK => ?_); go_simp; refine hK _ ?_; clear hK K hne) | (refine mix_load ?_ (fun K hK => ?_); (focus (first | rfl | (go_simp; done))); apply Exists.intro; apply And.intro; (focus (intro w' hC; go_simp; exact rfl)); go_simp; refine hK _ ?_; clear hK K) | (refine mix_skip ?_ (fun K hK => ?_); (focus (first | rfl | (go_simp; done))); go_simp; refine hK _ ?_; clear hK K)))
        (refine mix_one (by first | rfl | (go_simp; done)) (fun R hR hX => ?_))
        go_wp2_with fail
        refine HH.out.1.mono ?_
        rintro e w2 ⟨rfl, hr2, hO2⟩
        obtain ⟨-, hD, hs, hlt, hnx⟩ := HH.out
        have hD2 := (hD.below (Below.refl _ _).drew).read HL.out.1 HL.out.2.2.2.1 HL.out.2.2.2.2.1 hr2 hO2
        have hbx2 := hD2.box
        have H2 := Lib.hid (⟨hD2, hs, hlt, hnx⟩ : _ ∧ _ ∧ _ ∧ _)
        clear hr2 hO2 hD hs hlt hnx hD2 HH
        go_wp2_with fail
        refine hR _ _ rfl ⟨_, hbx2, (fun _ => rfl), ?_⟩
        clear hR hX R
        (repeat (first | (refine mix_pure (fun hne K hK => ?_); go_simp; refine hK _ ?_; clear hK K hne) | (refine mix_load ?_ (fun K hK => ?_); (focus (first | rfl | (go_simp; done))); apply Exists.intro; apply And.intro; (focus (intro w' hC; go_simp; exact rfl)); go_simp; refine hK _ ?_; clear hK K) | (refine mix_skip ?_ (fun K hK => ?_); (focus (first | rfl | (go_simp; done))); go_simp; refine hK _ ?_; clear hK K)))
        (refine mix_one (by first | rfl | (go_simp; done)) (fun R hR hX => ?_))
        have hbx3 := heap_keep ((Below.refl w2.heap.size w2).alloc (Nat.le_refl _) (.cells #[.int .i64 x] 3)) hbx2
        go_wp2_with fail
        refine hR _ _ rfl ⟨_, hbx3, (fun _ => rfl), ?_⟩
        clear hR hX R
        (refine mix_one (by first | rfl | (go_simp; done)) (fun R hR hX => ?_))
        have hD3 := H2.out.1.below ((Below.refl w2.heap.size w2).alloc (Nat.le_refl _) (.cells #[.int .i64 x] 3))
        have hown := hD3.po
        have hrv : RV (w2.alloc (.cells #[.int .i64 x] 3)) (.slice (some ⟨w2.heap.size, 0, none⟩) 1 1) [i64v x] := RV.single _ _
        have hb3 := hD3.lt
        have hlen : (intsOf (((l.drop (5)).take (n)).take j)).length ≤ 255 := by rw [intsOf_length]; simp; omega
        obtain ⟨pa, pk, rfl⟩ := own_slice hown
        have HD3 := Lib.hid hD3
        clear hD3
        go_wp2_with (at_builtin; (refine wpList_append_row rfl _ _ 22 rfl w.heap.size 3 i (.int .i64 0) 8 Try.underlying22 hi hz0 hz1 hz2 rfl _ _ _ rfl hown _ _ rfl hrv (one_cell rfl) ?c1 ?c2 ?c3 ?_))
        case c1 => (try simp only [List.length_cons, List.length_nil]); unfold maxLen; omega
        case c2 => (try simp only [List.length_cons, List.length_nil]); omega
        case c3 => first | exact hb3 | (simp at hb3 ⊢; omega)
        intro v' w4 hown4 hg4 hnew4
        have hown5 : w4.ownsRow w.heap.size 3 1 v' ((intsOf (((l.drop (5)).take (n)).take j)).length + 1) ((intsOf (((l.drop (5)).take (n)).take j) ++ [(x : Int)]).map i64v) := by
          rw [List.map_append]; exact hown4
        have hD5 := HD3.out.chip HRB.out HL.out.1 HL.out.2.1 HL.out.2.2.1 HL.out.2.2.2.1 HL.out.2.2.2.2.2 hown5 hg4
        have hbx4 := (Only.of_grown hg4).at HD3.out.box (fun e => by have := (HD3.out.po.lt tb e).1; have := HL.out.2.1; omega)
        obtain ⟨qa, qk, rfl⟩ := own_slice hown5
        have f1 := cells_at hbx4 1 _ rfl
        have g1 := froz_at hbx4 1
        simp only [List.getElem_toArray, List.getElem_cons_succ, List.getElem_cons_zero] at f1
        have hlt4 := heap_lt hbx4
        have H5 := Lib.hid (⟨hD5, H2.out.2.1, H2.out.2.2.1, H2.out.2.2.2⟩ : _ ∧ _ ∧ _ ∧ _)
        clear hown4 hown5 hg4 hnew4 hD5 hbx4 hbx3 hbx2 hbx hown hrv HD3 H2 b1
        go_wp2_with fail
        (try simp only [wpList]); refine hR _ _ rfl ⟨fun w' => w' = _, rfl, (fun h => by cases h), ?_⟩; clear hR hX R
        (repeat (first | (refine mix_pure (fun hne K hK => ?_); go_simp; refine hK _ ?_; clear hK K hne) | (refine mix_load ?_ (fun K hK => ?_); (focus (first | rfl | (go_simp; done))); go_simp; refine hK _ ?_; clear hK K) | (refine mix_skip ?_ (fun K hK => ?_); (focus (first | rfl | (go_simp; done))); go_simp; refine hK _ ?_; clear hK K)))
        (refine mix_one (by first | rfl | (go_simp; done)) (fun R hR hX => ?_))
        go_wp2_with fail
        ((try simp only [wpList]); refine hR _ _ rfl ⟨fun w' => w' = _, rfl, (fun h => by cases h), ?_⟩; clear hR hX R)
        refine mix_done ?_
        clear f1 g1
        go_wp2_with fail
        obtain ⟨hD5, hs, hlt, hnx⟩ := H5.out
        go_roundw
        case rel => exact ⟨j + 1, _, hlt, by go_num, by rw [hnx]; exact hD5, by omega⟩
        case measure => simp [intOf]; omega
      · have hu := rU8_short r (5 + j) v l wr.drew (hD.below (Below.refl _ _).drew).rd (by omega)
        have hno : ¬ mRead b p s ep l := fun h => by have := h.1; rw [← HNN.out] at this; omega
        have HH := Lib.hid (⟨hu, hD, hno⟩ : _ ∧ _ ∧ _)
        clear hu hD hs hlt hno
        go_wp2_with fail
        (refine wp_region_mix [0, 1, 2, 3, 4, 5, 6, 7, 8] [(true, true), (true, false), (true, true), (false, true), (true, true), (false, true), (false, false), (true, true), (false, false)] [0, 1, 0, 4, 12, 28, 63, 127, 255] (fun w' => w'.heap[tb]? = some (.cells #[.int .u32 seq, cv, .int .i64 0, .int .i64 0, .int .i64 0] 37 (0, 0))) (by kernel_rfl) (by kernel_rfl) ?_ ?_; rotate_left; simp only [pickL, List.map_cons, List.map_nil, List.getD_cons_succ, List.getD_cons_zero])
        rotate_left
        focus exact hbx
        (repeat (first | (refine mix_pure (fun hne K hK => ?_); go_simp; refine hK _ ?_; clear hK K hne) | (refine mix_load ?_ (fun K hK => ?_); (focus (first | rfl | (go_simp; done))); apply Exists.intro; apply And.intro; (focus (intro w' hC; go_simp; exact rfl)); go_simp; refine hK _ ?_; clear hK K) | (refine mix_skip ?_ (fun K hK => ?_); (focus (first | rfl | (go_simp; done))); go_simp; refine hK _ ?_; clear hK K)))
        (refine mix_one (by first | rfl | (go_simp; done)) (fun R hR hX => ?_))
        go_wp2_with fail
        refine HH.out.1.mono ?_
        rintro e w2 ⟨rfl, hb2⟩
        obtain ⟨-, hD, hno⟩ := HH.out
        have HX := Lib.hid (HNO.out hno (5 + j) w2 (hD.only.trans (Only.new ((Below.refl _ _).drew.trans hb2) fun _ => False) fun _ _ => False.elim))
        refine hX _ _ _ (by simp) (fun a'' ha'' => ?_)
        ((try simp only [Exit.inBlock, Exit.then]); exact ⟨ha'', HX.out⟩)
    · obtain rfl : n = j := by omega
      have htt : ((l.drop 5).take n).take n = (l.drop 5).take n := by rw [List.take_take, Nat.min_self]
      rw [htt] at hD
      obtain ⟨C, hC⟩ : ∃ C, C = intsOf ((l.drop 5).take n) := ⟨_, rfl⟩
      rw [← hC] at hD
      have HC := Lib.hid hC
      have H4 := Lib.hid (⟨hD, hjl⟩ : _ ∧ _)
      clear hD hjl htt hC
      generalize wr = w4 at H4 ⊢
      by_cases h6 : 5 + n < l.length
      rotate_left
      · have hu := rU8_short r (5 + n) v l w4 H4.out.1.rd (by omega)
        have hno : ¬ mRead b p s ep l := fun h => by have := h.1; rw [← HNN.out] at this; omega
        have HH := Lib.hid (⟨hu, hno⟩ : _ ∧ _)
        clear hu hno h6
        go_wp2_with fail
        refine HH.out.1.mono ?_
        rintro e w5 ⟨rfl, hb5⟩
        have HX := Lib.hid (HNO.out HH.out.2 (5 + n) w5 (H4.out.1.only.trans (Only.new hb5 fun _ => False) fun _ _ => False.elim))
        ((try simp only [Exit.inBlock, Exit.then]); exact ⟨rfl, HX.out⟩)
      have hx256 := getN_lt l (5 + n)
      obtain ⟨x1, hx1⟩ : ∃ x, getN l (5 + n) = x := ⟨_, rfl⟩
      rw [hx1] at hx256
      have hu := rU8_get r (5 + n) x1 v l w4 H4.out.1.rd h6 hx1
      have e1 : IntKind.i64.wrap (x1 : Int) = (x1 : Int) := IntWalk.i64_in _ ⟨by omega, by omega⟩
      have HU := Lib.hid (⟨hu, hx1⟩ : _ ∧ _)
      clear hu hx1
      go_wp2_with fail
      refine HU.out.1.mono ?_
      rintro e w5 ⟨rfl, hr5, hO5⟩
      have hD5 := H4.out.1.read HL.out.1 HL.out.2.2.2.1 HL.out.2.2.2.2.1 hr5 hO5
      have H5 := Lib.hid hD5
      clear hr5 hO5 hD5 H4
      by_cases h7 : 5 + n + 1 < l.length
      rotate_left
      · have hu := rU8_short r (5 + n + 1) v l w5 H5.out.rd (by omega)
        have hno : ¬ mRead b p s ep l := fun h => by have := h.1; rw [← HNN.out] at this; omega
        have HH := Lib.hid (⟨hu, hno⟩ : _ ∧ _)
        clear hu hno h7
        go_wp2_with fail
        refine HH.out.1.mono ?_
        rintro e w6 ⟨rfl, hb5⟩
        have HX := Lib.hid (HNO.out HH.out.2 (5 + n + 1) w6 (H5.out.only.trans (Only.new hb5 fun _ => False) fun _ _ => False.elim))
        ((try simp only [Exit.inBlock, Exit.then]); exact ⟨rfl, HX.out⟩)
      have hy256 := getN_lt l (5 + n + 1)
      obtain ⟨x2, hx2⟩ : ∃ x, getN l (5 + n + 1) = x := ⟨_, rfl⟩
      rw [hx2] at hy256
      have hu := rU8_get r (5 + n + 1) x2 v l w5 H5.out.rd h7 hx2
      have e2 : IntKind.i64.wrap (x2 : Int) = (x2 : Int) := IntWalk.i64_in _ ⟨by omega, by omega⟩
      have HU2 := Lib.hid (⟨hu, hx2⟩ : _ ∧ _)
      clear hu hx2
      go_wp2_with fail
      refine HU2.out.1.mono ?_
      rintro e w6 ⟨rfl, hr6, hO6⟩
      have hD6 := H5.out.read HL.out.1 HL.out.2.2.2.1 HL.out.2.2.2.2.1 hr6 hO6
      have H6 := Lib.hid hD6
      clear hr6 hO6 hD6 H5
      by_cases h8 : 5 + n + 1 + 1 < l.length
      rotate_left
      · have hu := rU8_short r (5 + n + 1 + 1) v l w6 H6.out.rd (by omega)
        have hno : ¬ mRead b p s ep l := fun h => by have := h.1; rw [← HNN.out] at this; omega
        have HH := Lib.hid (⟨hu, hno⟩ : _ ∧ _)
        clear hu hno h8
        go_wp2_with fail
        refine HH.out.1.mono ?_
        rintro e w7 ⟨rfl, hb5⟩
        have HX := Lib.hid (HNO.out HH.out.2 (5 + n + 1 + 1) w7 (H6.out.only.trans (Only.new hb5 fun _ => False) fun _ _ => False.elim))
        ((try simp only [Exit.inBlock, Exit.then]); exact ⟨rfl, HX.out⟩)
      have hz256 := getN_lt l (5 + n + 1 + 1)
      obtain ⟨x3, hx3⟩ : ∃ x, getN l (5 + n + 1 + 1) = x := ⟨_, rfl⟩
      rw [hx3] at hz256
      have hu := rU8_get r (5 + n + 1 + 1) x3 v l w6 H6.out.rd h8 hx3
      have e3 : IntKind.i64.wrap (x3 : Int) = (x3 : Int) := IntWalk.i64_in _ ⟨by omega, by omega⟩
      have HU3 := Lib.hid (⟨hu, hx3⟩ : _ ∧ _)
      clear hu hx3
      go_wp2_with fail
      refine HU3.out.1.mono ?_
      rintro e w7 ⟨rfl, hr7, hO7⟩
      have hD7 := H6.out.read HL.out.1 HL.out.2.2.2.1 HL.out.2.2.2.2.1 hr7 hO7
      have hbx7 := hD7.box
      have c2 := cells_at hbx7 2 _ rfl
      have c3 := cells_at hbx7 3 _ rfl
      have c4 := cells_at hbx7 4 _ rfl
      have f2 := froz_at hbx7 2
      have f3 := froz_at hbx7 3
      have f4 := froz_at hbx7 4
      simp only [List.getElem_toArray, List.getElem_cons_succ, List.getElem_cons_zero] at c2 c3 c4
      have hlb := heap_lt hbx7
      have hD8 := hD7.three HRB.out HL.out.2.1 HL.out.2.2.2.1 HL.out.2.2.2.2.2 (x1 : Int) (x2 : Int) (x3 : Int)
      have H8 := Lib.hid hD8
      clear hr7 hO7 hD7 hbx7 hD8 H6
      go_upto_region 6 with (fail)
      clear c2 c3 c4 f2 f3 f4 hlb e1 e2 e3 h6 h7
      generalize (((w7.setCell ⟨tb, 2, none⟩ (.int .i64 x1)).setCell ⟨tb, 3, none⟩ (.int .i64 x2)).setCell ⟨tb, 4, none⟩ (.int .i64 x3)) = w8 at H8 ⊢
      have hg8 : ∀ w', Only (fun x => x = r) w8 w' → w'.heap[gb]? = some (.cells #[.int .i64 n0, .int .i64 b, .int .i64 p, .int .i64 s] 28 (0, 0)) ∧ w'.heap[hb]? = some (.cells hc 98 (0, 0)) ∧ w'.heap[tb]? = some (.cells #[.int .u32 seq, cv, .int .i64 x1, .int .i64 x2, .int .i64 x3] 37 (0, 0)) := fun w' hO => by
        obtain ⟨hg, hh, -, ⟨a1, a2, a3⟩, b1, b2, b3⟩ := HGH.out
        exact ⟨hO.at (H8.out.only.at hg (by omega)) a1, hO.at (H8.out.only.at hh (by omega)) b1, hO.at H8.out.box HL.out.2.2.2.1⟩
      have HG8 := Lib.hid hg8
      have kb0 : ∀ w', Only (fun x => x = r) w8 w' → w'.cell? ⟨gb, 1, none⟩ = some (.int .i64 b) := fun w' h => cells_at (HG8.out w' h).1 1 _ rfl
      have kb1 : ∀ w', Only (fun x => x = r) w8 w' → w'.cell? ⟨gb, 2, none⟩ = some (.int .i64 p) := fun w' h => cells_at (HG8.out w' h).1 2 _ rfl
      have kb2 : ∀ w', Only (fun x => x = r) w8 w' → w'.cell? ⟨gb, 3, none⟩ = some (.int .i64 s) := fun w' h => cells_at (HG8.out w' h).1 3 _ rfl
      have kh : ∀ w', Only (fun x => x = r) w8 w' → w'.cell? ⟨hb, 1, none⟩ = some (.int .u32 ep) := fun w' h => cells_at (HG8.out w' h).2.1 1 _ HGH.out.2.2.1
      have kt : ∀ w', Only (fun x => x = r) w8 w' → w'.cell? ⟨tb, 0, none⟩ = some (.int .u32 seq) := fun w' h => cells_at (HG8.out w' h).2.2 0 _ rfl
      have hlb := heap_lt (HG8.out w8 (Only.refl _ _)).2.2
      have hlg := heap_lt (HG8.out w8 (Only.refl _ _)).1
      have hlh := heap_lt (HG8.out w8 (Only.refl _ _)).2.1
      clear hg8
      (refine wp_region_mix [0, 3, 4, 1, 2, 5, 6, 7, 10, 11, 8, 9, 12, 13, 14, 15, 18, 19, 16, 17, 20, 21, 22, 23, 24, 25, 26, 27, 28, 29, 30, 31, 32, 33] [(true, true), (true, true), (true, false), (false, true), (true, true), (true, true), (true, true), (true, true), (true, true), (true, false), (false, true), (true, true), (true, true), (true, true), (true, true), (true, true), (true, true), (true, false), (false, true), (true, true), (true, true), (true, true), (true, true), (true, true), (false, false), (true, true), (true, true), (true, true), (true, false), (true, true), (true, false), (true, true), (true, true), (false, false)] [0, 1, 3, 0, 8, 31, 63, 127, 255, 511, 127, 1151, 4095, 8191, 16383, 32767, 65535, 131071, 32767, 294911, 1048575, 2097151, 4194303, 8388607, 16777215, 33554431, 67108863, 134217727, 268435455, 134217727, 671088639, 2147483647, 4294967295, 8589934591] (fun w' => Only (fun x => x = r) w8 w') (by kernel_rfl) (by kernel_rfl) ?_ ?_; rotate_left; simp only [pickL, List.map_cons, List.map_nil, List.getD_cons_succ, List.getD_cons_zero])
      rotate_left
      focus exact Only.new (Below.refl w8.heap.size w8).drew _
      (repeat (first | (refine mix_pure (fun hne K hK => ?_); go_simp; refine hK _ ?_; clear hK K hne) | (refine mix_load ?_ (fun K hK => ?_); (focus (first | rfl | (go_simp; done))); apply Exists.intro; apply And.intro; (focus (intro w' hC; go_simp; exact rfl)); go_simp; refine hK _ ?_; clear hK K) | (refine mix_skip ?_ (fun K hK => ?_); (focus (first | rfl | (go_simp; done))); go_simp; refine hK _ ?_; clear hK K)))
      (refine mix_one (by first | rfl | (go_simp; done)) (fun R hR hX => ?_))
      by_cases hs1 : 5 + n + 1 + 1 + 1 + 2 ≤ l.length
      rotate_left
      · have hu := rU16_short r (5 + n + 1 + 1 + 1) v l w8.drew (H8.out.below (Below.refl _ _).drew).rd (by omega)
        have hno : ¬ mRead b p s ep l := fun h => by have := h.1; rw [← HNN.out] at this; omega
        have HH := Lib.hid (⟨hu, hno⟩ : _ ∧ _)
        clear hu hno hs1 kb0 kb1 kb2 kh kt hlb hlg hlh
        go_wp2_with fail
        refine HH.out.1.mono ?_
        rintro e wq ⟨rfl, hbq⟩
        have HX := Lib.hid (HNO.out HH.out.2 (5 + n + 1 + 1 + 1) wq (H8.out.only.trans (Only.new ((Below.refl _ _).drew.trans hbq) fun _ => False) fun _ _ => False.elim))
        refine hX _ _ _ (by simp) (fun a'' ha'' => ?_)
        ((try simp only [Exit.inBlock, Exit.then]); exact ⟨ha'', HX.out⟩)
      have hu := rU16_ok r (5 + n + 1 + 1 + 1) v l w8.drew (H8.out.below (Below.refl _ _).drew).rd hs1
      obtain ⟨u1, hu1⟩ : ∃ u, u = mU l (5 + n + 1 + 1 + 1) := ⟨_, rfl⟩
      rw [show leNum ((l.drop (5 + n + 1 + 1 + 1)).take 2) = u1 from hu1.symm] at hu
      have hub : u1 < 65536 := by
        rw [hu1]
        unfold mU
        have h1 := leNum_lt ((l.drop (5 + n + 1 + 1 + 1)).take 2)
        have h2 : ((l.drop (5 + n + 1 + 1 + 1)).take 2).length = 2 := by simp; omega
        rw [h2] at h1
        exact h1
      have ew1 : IntKind.i64.wrap (u1 : Int) = (u1 : Int) := IntWalk.i64_in _ ⟨by omega, by omega⟩
      have HV1 := Lib.hid (⟨hu, hu1⟩ : _ ∧ _)
      clear hu hu1 hub
      go_wp2_with fail
      refine HV1.out.1.mono ?_
      rintro e w9 ⟨rfl, hr', hO'⟩
      have hM1 := (H8.out.below (Below.refl _ _).drew).read HL.out.1 HL.out.2.2.2.1 HL.out.2.2.2.2.1 hr' hO'
      have hC1 : Only (fun x => x = r) w8 w9 := (Only.new (Below.refl w8.heap.size w8).drew _).trans hO' fun _ _ h => h
      have HM1 := Lib.hid (⟨hM1, hC1⟩ : _ ∧ _)
      clear hr' hO' hM1
      go_wp2_with fail
      refine hR _ _ rfl ⟨_, hC1, fun _ => rfl, ?_⟩
      clear hR hX R hC1
      by_cases q1 : u1 = b
      rotate_left
      · have eq1 : ((u1 : Int) == (b : Int)) = false := by rw [beq_eq_false_iff_ne]; omega
        have hnr : ¬ mRead b p s ep l := fun h => q1 (by rw [HV1.out.2, ← h.2.1, ← HNN.out]; congr 1; omega)
        clear q1
        have hz := HM1.out.1.z
        have z0 := cells_at hz 0 _ rfl
        have g0 := froz_at hz 0
        simp only [List.getElem_toArray, List.getElem_cons_zero] at z0
        have hlz := heap_lt hz
        have hset := set_at (o := 0) hz (.bool false)
        simp only [List.setIfInBounds_toArray, List.set_cons_zero] at hset
        have HE := Lib.hid (HYES.out false (w9.setCell ⟨zb, 0, none⟩ (.bool false)) hset ⟨(fun h => by cases h), fun h => absurd h hnr⟩ (fun h => by cases h) (HM1.out.1.only.set _ _ fun _ => .inr (.inr rfl)))
        clear hset hz hnr kb0 kb1 kb2 kh kt
        (repeat (first | (refine mix_pure (fun hne K hK => ?_); go_simp; refine hK _ ?_; clear hK K hne) | (refine mix_load ?_ (fun K hK => ?_); (focus (first | rfl | (go_simp; done))); apply Exists.intro; apply And.intro; (focus (intro w' hC; go_simp; exact rfl)); go_simp; refine hK _ ?_; clear hK K) | (refine mix_skip ?_ (fun K hK => ?_); (focus (first | rfl | (go_simp; done))); go_simp; refine hK _ ?_; clear hK K)))
        (refine mix_one (by first | rfl | (go_simp; done)) (fun R hR hX => ?_))
        go_wp2_with fail
        ((try simp only [wpList]); refine hR _ _ rfl ⟨fun w' => w' = _, rfl, (fun h => by cases h), ?_⟩; clear hR hX R)
        refine mix_done ?_
        go_wp2_with fail
        ((try simp only [Exit.inBlock, Exit.then]); (first | refine bodyPost_end (results_none rfl _ _ _) rfl ?_ | refine bodyPost_ret (results_none rfl _ _ _) rfl ?_))
        exact HE.out
      have eq1 : ((u1 : Int) == (b : Int)) = true := by rw [beq_iff_eq]; omega
      have Q1 := Lib.hid q1
      clear q1
      (repeat (first | (refine mix_pure (fun hne K hK => ?_); go_simp; refine hK _ ?_; clear hK K hne) | (refine mix_load ?_ (fun K hK => ?_); (focus (first | rfl | (go_simp; done))); apply Exists.intro; apply And.intro; (focus (intro w' hC; go_simp; exact rfl)); go_simp; refine hK _ ?_; clear hK K) | (refine mix_skip ?_ (fun K hK => ?_); (focus (first | rfl | (go_simp; done))); go_simp; refine hK _ ?_; clear hK K)))
      clear eq1 ew1
      (refine mix_one (by first | rfl | (go_simp; done)) (fun R hR hX => ?_))
      by_cases hs2 : 5 + n + 1 + 1 + 1 + 2 + 2 ≤ l.length
      rotate_left
      · have hu := rU16_short r (5 + n + 1 + 1 + 1 + 2) v l w9 HM1.out.1.rd (by omega)
        have hno : ¬ mRead b p s ep l := fun h => by have := h.1; rw [← HNN.out] at this; omega
        have HH := Lib.hid (⟨hu, hno⟩ : _ ∧ _)
        clear hu hno hs2 kb0 kb1 kb2 kh kt hlb hlg hlh
        go_wp2_with fail
        refine HH.out.1.mono ?_
        rintro e wq ⟨rfl, hbq⟩
        have HX := Lib.hid (HNO.out HH.out.2 (5 + n + 1 + 1 + 1 + 2) wq (HM1.out.1.only.trans (Only.new hbq fun _ => False) fun _ _ => False.elim))
        refine hX _ _ _ (by simp) (fun a'' ha'' => ?_)
        ((try simp only [Exit.inBlock, Exit.then]); exact ⟨ha'', HX.out⟩)
      have hu := rU16_ok r (5 + n + 1 + 1 + 1 + 2) v l w9 HM1.out.1.rd hs2
      obtain ⟨u2, hu2⟩ : ∃ u, u = mU l (5 + n + 1 + 1 + 1 + 2) := ⟨_, rfl⟩
      rw [show leNum ((l.drop (5 + n + 1 + 1 + 1 + 2)).take 2) = u2 from hu2.symm] at hu
      have hub : u2 < 65536 := by
        rw [hu2]
        unfold mU
        have h1 := leNum_lt ((l.drop (5 + n + 1 + 1 + 1 + 2)).take 2)
        have h2 : ((l.drop (5 + n + 1 + 1 + 1 + 2)).take 2).length = 2 := by simp; omega
        rw [h2] at h1
        exact h1
      have ew2 : IntKind.i64.wrap (u2 : Int) = (u2 : Int) := IntWalk.i64_in _ ⟨by omega, by omega⟩
      have HV2 := Lib.hid (⟨hu, hu2⟩ : _ ∧ _)
      clear hu hu2 hub
      go_wp2_with fail
      refine HV2.out.1.mono ?_
      rintro e w10 ⟨rfl, hr', hO'⟩
      have hM2 := HM1.out.1.read HL.out.1 HL.out.2.2.2.1 HL.out.2.2.2.2.1 hr' hO'
      have hC2 : Only (fun x => x = r) w8 w10 := HM1.out.2.trans hO' fun _ _ h => h
      have HM2 := Lib.hid (⟨hM2, hC2⟩ : _ ∧ _)
      clear hr' hO' hM2
      go_wp2_with fail
      refine hR _ _ rfl ⟨_, hC2, fun _ => rfl, ?_⟩
      clear hR hX R hC2
      by_cases q2 : u2 = p
      rotate_left
      · have eq2 : ((u2 : Int) == (p : Int)) = false := by rw [beq_eq_false_iff_ne]; omega
        have hnr : ¬ mRead b p s ep l := fun h => q2 (by rw [HV2.out.2, ← h.2.2.1, ← HNN.out]; congr 1; omega)
        clear q2
        have hz := HM2.out.1.z
        have z0 := cells_at hz 0 _ rfl
        have g0 := froz_at hz 0
        simp only [List.getElem_toArray, List.getElem_cons_zero] at z0
        have hlz := heap_lt hz
        have hset := set_at (o := 0) hz (.bool false)
        simp only [List.setIfInBounds_toArray, List.set_cons_zero] at hset
        have HE := Lib.hid (HYES.out false (w10.setCell ⟨zb, 0, none⟩ (.bool false)) hset ⟨(fun h => by cases h), fun h => absurd h hnr⟩ (fun h => by cases h) (HM2.out.1.only.set _ _ fun _ => .inr (.inr rfl)))
        clear hset hz hnr kb0 kb1 kb2 kh kt
        (repeat (first | (refine mix_pure (fun hne K hK => ?_); go_simp; refine hK _ ?_; clear hK K hne) | (refine mix_load ?_ (fun K hK => ?_); (focus (first | rfl | (go_simp; done))); apply Exists.intro; apply And.intro; (focus (intro w' hC; go_simp; exact rfl)); go_simp; refine hK _ ?_; clear hK K) | (refine mix_skip ?_ (fun K hK => ?_); (focus (first | rfl | (go_simp; done))); go_simp; refine hK _ ?_; clear hK K)))
        (refine mix_one (by first | rfl | (go_simp; done)) (fun R hR hX => ?_))
        go_wp2_with fail
        ((try simp only [wpList]); refine hR _ _ rfl ⟨fun w' => w' = _, rfl, (fun h => by cases h), ?_⟩; clear hR hX R)
        refine mix_done ?_
        go_wp2_with fail
        ((try simp only [Exit.inBlock, Exit.then]); (first | refine bodyPost_end (results_none rfl _ _ _) rfl ?_ | refine bodyPost_ret (results_none rfl _ _ _) rfl ?_))
        exact HE.out
      have eq2 : ((u2 : Int) == (p : Int)) = true := by rw [beq_iff_eq]; omega
      have Q2 := Lib.hid q2
      clear q2
      (repeat (first | (refine mix_pure (fun hne K hK => ?_); go_simp; refine hK _ ?_; clear hK K hne) | (refine mix_load ?_ (fun K hK => ?_); (focus (first | rfl | (go_simp; done))); apply Exists.intro; apply And.intro; (focus (intro w' hC; go_simp; exact rfl)); go_simp; refine hK _ ?_; clear hK K) | (refine mix_skip ?_ (fun K hK => ?_); (focus (first | rfl | (go_simp; done))); go_simp; refine hK _ ?_; clear hK K)))
      clear eq2 ew2
      (refine mix_one (by first | rfl | (go_simp; done)) (fun R hR hX => ?_))
      by_cases hs3 : 5 + n + 1 + 1 + 1 + 2 + 2 + 2 ≤ l.length
      rotate_left
      · have hu := rU16_short r (5 + n + 1 + 1 + 1 + 2 + 2) v l w10 HM2.out.1.rd (by omega)
        have hno : ¬ mRead b p s ep l := fun h => by have := h.1; rw [← HNN.out] at this; omega
        have HH := Lib.hid (⟨hu, hno⟩ : _ ∧ _)
        clear hu hno hs3 kb0 kb1 kb2 kh kt hlb hlg hlh
        go_wp2_with fail
        refine HH.out.1.mono ?_
        rintro e wq ⟨rfl, hbq⟩
        have HX := Lib.hid (HNO.out HH.out.2 (5 + n + 1 + 1 + 1 + 2 + 2) wq (HM2.out.1.only.trans (Only.new hbq fun _ => False) fun _ _ => False.elim))
        refine hX _ _ _ (by simp) (fun a'' ha'' => ?_)
        ((try simp only [Exit.inBlock, Exit.then]); exact ⟨ha'', HX.out⟩)
      have hu := rU16_ok r (5 + n + 1 + 1 + 1 + 2 + 2) v l w10 HM2.out.1.rd hs3
      obtain ⟨u3, hu3⟩ : ∃ u, u = mU l (5 + n + 1 + 1 + 1 + 2 + 2) := ⟨_, rfl⟩
      rw [show leNum ((l.drop (5 + n + 1 + 1 + 1 + 2 + 2)).take 2) = u3 from hu3.symm] at hu
      have hub : u3 < 65536 := by
        rw [hu3]
        unfold mU
        have h1 := leNum_lt ((l.drop (5 + n + 1 + 1 + 1 + 2 + 2)).take 2)
        have h2 : ((l.drop (5 + n + 1 + 1 + 1 + 2 + 2)).take 2).length = 2 := by simp; omega
        rw [h2] at h1
        exact h1
      have ew3 : IntKind.i64.wrap (u3 : Int) = (u3 : Int) := IntWalk.i64_in _ ⟨by omega, by omega⟩
      have HV3 := Lib.hid (⟨hu, hu3⟩ : _ ∧ _)
      clear hu hu3 hub
      go_wp2_with fail
      refine HV3.out.1.mono ?_
      rintro e w11 ⟨rfl, hr', hO'⟩
      have hM3 := HM2.out.1.read HL.out.1 HL.out.2.2.2.1 HL.out.2.2.2.2.1 hr' hO'
      have hC3 : Only (fun x => x = r) w8 w11 := HM2.out.2.trans hO' fun _ _ h => h
      have HM3 := Lib.hid (⟨hM3, hC3⟩ : _ ∧ _)
      clear hr' hO' hM3
      go_wp2_with fail
      refine hR _ _ rfl ⟨_, hC3, fun _ => rfl, ?_⟩
      clear hR hX R hC3
      by_cases q3 : u3 = s
      rotate_left
      · have eq3 : ((u3 : Int) == (s : Int)) = false := by rw [beq_eq_false_iff_ne]; omega
        have hnr : ¬ mRead b p s ep l := fun h => q3 (by rw [HV3.out.2, ← h.2.2.2.1, ← HNN.out]; congr 1; omega)
        clear q3
        have hz := HM3.out.1.z
        have z0 := cells_at hz 0 _ rfl
        have g0 := froz_at hz 0
        simp only [List.getElem_toArray, List.getElem_cons_zero] at z0
        have hlz := heap_lt hz
        have hset := set_at (o := 0) hz (.bool false)
        simp only [List.setIfInBounds_toArray, List.set_cons_zero] at hset
        have HE := Lib.hid (HYES.out false (w11.setCell ⟨zb, 0, none⟩ (.bool false)) hset ⟨(fun h => by cases h), fun h => absurd h hnr⟩ (fun h => by cases h) (HM3.out.1.only.set _ _ fun _ => .inr (.inr rfl)))
        clear hset hz hnr kb0 kb1 kb2 kh kt
        (repeat (first | (refine mix_pure (fun hne K hK => ?_); go_simp; refine hK _ ?_; clear hK K hne) | (refine mix_load ?_ (fun K hK => ?_); (focus (first | rfl | (go_simp; done))); apply Exists.intro; apply And.intro; (focus (intro w' hC; go_simp; exact rfl)); go_simp; refine hK _ ?_; clear hK K) | (refine mix_skip ?_ (fun K hK => ?_); (focus (first | rfl | (go_simp; done))); go_simp; refine hK _ ?_; clear hK K)))
        (refine mix_one (by first | rfl | (go_simp; done)) (fun R hR hX => ?_))
        go_wp2_with fail
        ((try simp only [wpList]); refine hR _ _ rfl ⟨fun w' => w' = _, rfl, (fun h => by cases h), ?_⟩; clear hR hX R)
        refine mix_done ?_
        go_wp2_with fail
        ((try simp only [Exit.inBlock, Exit.then]); (first | refine bodyPost_end (results_none rfl _ _ _) rfl ?_ | refine bodyPost_ret (results_none rfl _ _ _) rfl ?_))
        exact HE.out
      have eq3 : ((u3 : Int) == (s : Int)) = true := by rw [beq_iff_eq]; omega
      have Q3 := Lib.hid q3
      clear q3
      (repeat (first | (refine mix_pure (fun hne K hK => ?_); go_simp; refine hK _ ?_; clear hK K hne) | (refine mix_load ?_ (fun K hK => ?_); (focus (first | rfl | (go_simp; done))); apply Exists.intro; apply And.intro; (focus (intro w' hC; go_simp; exact rfl)); go_simp; refine hK _ ?_; clear hK K) | (refine mix_skip ?_ (fun K hK => ?_); (focus (first | rfl | (go_simp; done))); go_simp; refine hK _ ?_; clear hK K)))
      clear eq3 ew3
      (refine mix_one (by first | rfl | (go_simp; done)) (fun R hR hX => ?_))
      have hzc := rZero_calls r (5 + n + 1 + 1 + 1 + 2 + 2 + 2) v l w11 HM3.out.1.rd
      obtain ⟨Z, hZ⟩ : ∃ Z, Z = (l.drop (5 + n + 1 + 1 + 1 + 2 + 2 + 2)).all (· == 0) := ⟨_, rfl⟩
      rw [← hZ] at hzc
      have HZC := Lib.hid (⟨hzc, hZ⟩ : _ ∧ _)
      clear hzc hZ
      go_wp2_with fail
      refine HZC.out.1.mono ?_
      rintro e w12 ⟨rfl, hb12⟩
      have hM4 := HM3.out.1.below hb12
      have hC4 : Only (fun x => x = r) w8 w12 := HM3.out.2.trans (Only.new hb12 fun _ => False) fun _ _ => False.elim
      have HM4 := Lib.hid (⟨hM4, hC4⟩ : _ ∧ _)
      clear hM4 hb12
      go_wp2_with fail
      refine hR _ _ rfl ⟨_, hC4, fun _ => rfl, ?_⟩
      clear hR hX R hC4
      cases Z
      · have hnr : ¬ mRead b p s ep l := fun h => by
          have h5 := h.2.2.2.2.1
          rw [← HNN.out, show 14 + n = 5 + n + 1 + 1 + 1 + 2 + 2 + 2 by omega, ← HZC.out.2] at h5
          cases h5
        have hz := HM4.out.1.z
        have z0 := cells_at hz 0 _ rfl
        have g0 := froz_at hz 0
        simp only [List.getElem_toArray, List.getElem_cons_zero] at z0
        have hlz := heap_lt hz
        have hset := set_at (o := 0) hz (.bool false)
        simp only [List.setIfInBounds_toArray, List.set_cons_zero] at hset
        have HE := Lib.hid (HYES.out false (w12.setCell ⟨zb, 0, none⟩ (.bool false)) hset ⟨(fun h => by cases h), fun h => absurd h hnr⟩ (fun h => by cases h) (HM4.out.1.only.set _ _ fun _ => .inr (.inr rfl)))
        clear hset hz hnr kb0 kb1 kb2 kh kt
        (repeat (first | (refine mix_pure (fun hne K hK => ?_); go_simp; refine hK _ ?_; clear hK K hne) | (refine mix_load ?_ (fun K hK => ?_); (focus (first | rfl | (go_simp; done))); apply Exists.intro; apply And.intro; (focus (intro w' hC; go_simp; exact rfl)); go_simp; refine hK _ ?_; clear hK K) | (refine mix_skip ?_ (fun K hK => ?_); (focus (first | rfl | (go_simp; done))); go_simp; refine hK _ ?_; clear hK K)))
        (refine mix_one (by first | rfl | (go_simp; done)) (fun R hR hX => ?_))
        go_wp2_with fail
        ((try simp only [wpList]); refine hR _ _ rfl ⟨fun w' => w' = _, rfl, (fun h => by cases h), ?_⟩; clear hR hX R)
        refine mix_done ?_
        go_wp2_with fail
        ((try simp only [Exit.inBlock, Exit.then]); (first | refine bodyPost_end (results_none rfl _ _ _) rfl ?_ | refine bodyPost_ret (results_none rfl _ _ _) rfl ?_))
        exact HE.out
      by_cases q4 : seq = ep
      rotate_left
      · have eq4 : ((seq : Int) == (ep : Int)) = false := by rw [beq_eq_false_iff_ne]; omega
        have hnr : ¬ mRead b p s ep l := fun h => q4 (by rw [HSQ.out]; exact h.2.2.2.2.2)
        clear q4
        have hz := HM4.out.1.z
        have z0 := cells_at hz 0 _ rfl
        have g0 := froz_at hz 0
        simp only [List.getElem_toArray, List.getElem_cons_zero] at z0
        have hlz := heap_lt hz
        have hset := set_at (o := 0) hz (.bool false)
        simp only [List.setIfInBounds_toArray, List.set_cons_zero] at hset
        have HE := Lib.hid (HYES.out false (w12.setCell ⟨zb, 0, none⟩ (.bool false)) hset ⟨(fun h => by cases h), fun h => absurd h hnr⟩ (fun h => by cases h) (HM4.out.1.only.set _ _ fun _ => .inr (.inr rfl)))
        clear hset hz hnr kb0 kb1 kb2 
        (repeat (first | (refine mix_pure (fun hne K hK => ?_); go_simp; refine hK _ ?_; clear hK K hne) | (refine mix_load ?_ (fun K hK => ?_); (focus (first | rfl | (go_simp; done))); apply Exists.intro; apply And.intro; (focus (intro w' hC; go_simp; exact rfl)); go_simp; refine hK _ ?_; clear hK K) | (refine mix_skip ?_ (fun K hK => ?_); (focus (first | rfl | (go_simp; done))); go_simp; refine hK _ ?_; clear hK K)))
        (refine mix_one (by first | rfl | (go_simp; done)) (fun R hR hX => ?_))
        go_wp2_with fail
        ((try simp only [wpList]); refine hR _ _ rfl ⟨fun w' => w' = _, rfl, (fun h => by cases h), ?_⟩; clear hR hX R)
        refine mix_done ?_
        go_wp2_with fail
        ((try simp only [Exit.inBlock, Exit.then]); (first | refine bodyPost_end (results_none rfl _ _ _) rfl ?_ | refine bodyPost_ret (results_none rfl _ _ _) rfl ?_))
        exact HE.out
      have eq4 : ((seq : Int) == (ep : Int)) = true := by rw [beq_iff_eq]; omega
      have hrd : mRead b p s ep l := by
        refine ⟨by rw [← HNN.out]; omega, ?_, ?_, ?_, ?_, by rw [← HSQ.out]; exact q4⟩
        · rw [← HNN.out, ← Q1.out, HV1.out.2]; congr 1; omega
        · rw [← HNN.out, ← Q2.out, HV2.out.2]; congr 1; omega
        · rw [← HNN.out, ← Q3.out, HV3.out.2]; congr 1; omega
        · rw [← HNN.out, show 14 + n = 5 + n + 1 + 1 + 1 + 2 + 2 + 2 by omega, ← HZC.out.2]
      have hz := HM4.out.1.z
      have z0 := cells_at hz 0 _ rfl
      have g0 := froz_at hz 0
      simp only [List.getElem_toArray, List.getElem_cons_zero] at z0
      have hlz := heap_lt hz
      have hset := set_at (o := 0) hz (.bool true)
      simp only [List.setIfInBounds_toArray, List.set_cons_zero] at hset
      have hbx := set_other (a := ⟨zb, 0, none⟩) (.bool true) HM4.out.1.box HL.out.2.2.2.2.2
      have hpo := own_only HM4.out.1.po (Only.of_set w12 ⟨zb, 0, none⟩ (.bool true)) (fun b hb e => by have := (HM4.out.1.po.lt b hb).1; have := HL.out.2.2.1; have e : b = zb := e; omega)
      have hms : ((mSet l).cells cv) = #[.int .u32 seq, cv, .int .i64 x1, .int .i64 x2, .int .i64 x3] := by
        unfold mSet Ms.cells
        simp only
        rw [← HSQ.out, ← HNN.out, show 6 + n = 5 + n + 1 by omega, show 7 + n = 5 + n + 1 + 1 by omega, HU.out.2, HU2.out.2, HU3.out.2]
      have hch : (mSet l).chips = C := by
        unfold mSet
        simp only
        rw [← HNN.out, HC.out]
      have HE := Lib.hid (HYES.out true (w12.setCell ⟨zb, 0, none⟩ (.bool true)) hset ⟨fun _ => hrd, fun _ => rfl⟩ (fun _ => ⟨cv, by rw [hms]; exact hbx, by rw [hch]; exact hpo⟩) (HM4.out.1.only.set _ _ fun _ => .inr (.inr rfl)))
      clear hset hz hrd hbx hpo hms hch q4 kb0 kb1 kb2
      (repeat (first | (refine mix_pure (fun hne K hK => ?_); go_simp; refine hK _ ?_; clear hK K hne) | (refine mix_load ?_ (fun K hK => ?_); (focus (first | rfl | (go_simp; done))); apply Exists.intro; apply And.intro; (focus (intro w' hC; go_simp; exact rfl)); go_simp; refine hK _ ?_; clear hK K) | (refine mix_skip ?_ (fun K hK => ?_); (focus (first | rfl | (go_simp; done))); go_simp; refine hK _ ?_; clear hK K)))
      (refine mix_one (by first | rfl | (go_simp; done)) (fun R hR hX => ?_))
      go_wp2_with fail
      ((try simp only [wpList]); refine hR _ _ rfl ⟨fun w' => w' = _, rfl, (fun h => by cases h), ?_⟩; clear hR hX R)
      refine mix_done ?_
      go_wp2_with fail
      ((try simp only [Exit.inBlock, Exit.then]); (first | refine bodyPost_end (results_none rfl _ _ _) rfl ?_ | refine bodyPost_ret (results_none rfl _ _ _) rfl ?_))
      exact HE.out
end Go.Proofs.Ytogejjbclimjjaa
