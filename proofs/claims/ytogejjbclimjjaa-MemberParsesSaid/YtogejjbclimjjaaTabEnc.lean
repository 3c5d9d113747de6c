/- remap: a list's bytes, a table's bytes. -/
--only r2
import Derived.Test.YtogejjbclimjjaaTabCheck
namespace Go.Proofs.Ytogejjbclimjjaa
set_option linter.unusedVariables false
set_option linter.unusedSimpArgs false
open Go.RowKit

theorem leAll1_snoc (ns : List Nat) (n : Nat) : leAll 1 (ns ++ [n]) = leAll 1 ns ++ leAll 1 [n] := by simp [leAll]
theorem listB_length (l : List Int) : (listB l).length = 1 + l.length := by simp [listB, leAll_length]

set_option maxRecDepth 100000 in
set_option maxHeartbeats 1000000 in
theorem list_calls (p base : Nat) (v vx : Value) (l : List UInt8) (xs : List Int) (w : World) (hw : Wr w p base v l) (hx : RI w vx xs) (hap : xs = [] ∨ ApartW vx p v) (hb : ∀ x ∈ xs, 0 ≤ x ∧ x < 256) (hlen : xs.length < 256) (hl : l.length ≤ 1000) :
    Calls Try.prog 62 #[ptrV p, vx] w fun e w' => e = .returned (.tuple #[]) ∧ ∃ v', Wr w' p base v' (l ++ listB xs) ∧ Grow p v v' w w' := by
  obtain ⟨ax, cx, rfl, hx1, hx2⟩ := hx.form
  have e1 : IntKind.u8.wrap (xs.length : Int) = (xs.length : Int) := IntWalk.u8_in _ ⟨by omega, by omega⟩
  have hal := (Below.refl w.heap.size w).alloc (Nat.le_refl _) (.cells #[.int .u8 xs.length] 5)
  have hw1 := hw.below hal
  have hrv : RV (w.alloc (.cells #[.int .u8 xs.length] 5)) (.slice (some ⟨w.heap.size, 0, none⟩) 1 1) ([xs.length].map fun (n : Nat) => Value.int .u8 (n : Int)) := RV.single _ _
  have h1 := wU8_calls p base v _ l [xs.length] _ hw1 hrv (ApartW.new hw) (by simpa using hlen) (by omega) (by simp)
  have HU := Lib.hid (⟨h1, hal, hx, hap, hw⟩ : _ ∧ _ ∧ _ ∧ _ ∧ _)
  clear h1 hal hx hap hw hw1 hrv
  go_enter Try.func62, Try.ntmps62
  go_wp2_with fail
  refine HU.out.1.mono ?_
  rintro e w1 ⟨rfl, v1, hw1, hg1⟩
  obtain ⟨-, hal, hx, hap, hw⟩ := HU.out
  have hO1 : Grow p v v1 w w1 := ⟨(Only.new hal _).trans hg1.only fun _ _ h => h, fun g h => (hg1.row g h).imp_right fun h => Nat.le_trans hal.size h⟩
  have HA := Lib.hid (⟨hx, hap, hw⟩ : _ ∧ _ ∧ _)
  have HW1 := Lib.hid (⟨hw1, hO1⟩ : _ ∧ _)
  clear hal hx hap hw hw1 hg1 hO1 HU e1
  go_wp2_with fail
  go_loopw [14] (fun i wr => ∃ j : Nat, j ≤ xs.length ∧ i = .int .i64 j ∧ ∃ v', Wr wr p base v' (l ++ leAll 1 [xs.length] ++ leAll 1 ((xs.take j).map Int.toNat)) ∧ Grow p v v' w wr) (fun i _ => xs.length - (intOf i).toNat)
  case atStart => exact ⟨0, by omega, rfl, v1, by simpa [leAll] using HW1.out.1, HW1.out.2⟩
  case round =>
    clear HW1
    obtain ⟨j, hj, rfl, v', hw', hg'⟩ := hrel
    obtain ⟨hx, hap, hw⟩ := HA.out
    by_cases hjl : j < xs.length
    · have hj' : (j : Int) < (xs.length : Int) := by omega
      have hxr : RI wr (.slice ax xs.length cx) xs := RV.apart hx (hap.resolve_left (fun e => by rw [e] at hjl; simp at hjl)) hg'
      obtain ⟨lb, lo, lc, hle, hc⟩ := hxr.at hjl
      simp only [Value.slice.injEq] at hle
      obtain ⟨rfl, -, rfl⟩ := hle
      have hlc := cell_lt hc
      have htk : (xs.take (j + 1)).map Int.toNat = (xs.take j).map Int.toNat ++ [(xs[j]).toNat] := by rw [List.take_succ_eq_append_getElem hjl, List.map_append]; rfl
      obtain ⟨b0, b1⟩ := hb xs[j] (List.getElem_mem hjl)
      generalize xs[j] = x at hc htk b0 b1
      obtain ⟨n, rfl⟩ : ∃ n : Nat, x = n := ⟨x.toNat, by omega⟩
      rw [Int.toNat_natCast] at htk
      have e1 : IntKind.u8.wrap (n : Int) = (n : Int) := IntWalk.u8_in _ ⟨by omega, by omega⟩
      have hal := (Below.refl wr.heap.size wr).alloc (Nat.le_refl _) (.cells #[.int .u8 n] 5)
      have hrv : RV (wr.alloc (.cells #[.int .u8 n] 5)) (.slice (some ⟨wr.heap.size, 0, none⟩) 1 1) ([n].map fun (n : Nat) => Value.int .u8 (n : Int)) := RV.single _ _
      have hln : (l ++ leAll 1 [xs.length] ++ leAll 1 ((xs.take j).map Int.toNat)).length ≤ 100000000 := by simp only [List.length_append, leAll_length, List.length_map, List.length_take, List.length_cons, List.length_nil]; omega
      have h1 := wU8_calls p base v' _ _ [n] _ (hw'.below hal) hrv (ApartW.new hw') (by simp; omega) hln (by simp)
      have HU := Lib.hid (⟨h1, hal, hw', hg', htk, hjl⟩ : _ ∧ _ ∧ _ ∧ _ ∧ _ ∧ _)
      clear h1 hal hw' hg' htk hjl hrv hln hxr hx hap hw b0 b1
      go_wp2_with fail
      refine HU.out.1.mono ?_
      rintro e w2 ⟨rfl, v2, hw2, hg2⟩
      obtain ⟨-, hal, hw', hg', htk, hjl⟩ := HU.out
      have hO2 : Grow p v' v2 wr w2 := ⟨(Only.new hal _).trans hg2.only fun _ _ h => h, fun g h => (hg2.row g h).imp_right fun h => Nat.le_trans hal.size h⟩
      have hw2' : Wr w2 p base v2 (l ++ leAll 1 [xs.length] ++ leAll 1 ((xs.take (j + 1)).map Int.toNat)) := by
        rw [htk, leAll1_snoc, ← List.append_assoc]; exact hw2
      have HX := Lib.hid (⟨hw2', hg'.trans hO2, hjl⟩ : _ ∧ _ ∧ _)
      clear hal hw' hg' htk hjl hO2 hw2' hw2 hg2 HU
      go_wp2_with fail
      go_roundw
      case rel => exact ⟨j + 1, HX.out.2.2, by go_num, v2, HX.out.1, HX.out.2.1⟩
      case measure => have := HX.out.2.2; simp [intOf]; omega
    · obtain rfl : j = xs.length := by omega
      rw [List.take_length, List.append_assoc] at hw'
      have HX := Lib.hid (⟨v', hw', hg'⟩ : ∃ v', Wr wr p base v' (l ++ listB xs) ∧ Grow p v v' w wr)
      clear hw' hg' hx hap hw
      go_wp2_with fail
      ((try simp only [Exit.inBlock, Exit.then]); (first | refine bodyPost_end (results_none rfl _ _ _) rfl ?_ | refine bodyPost_ret (results_none rfl _ _ _) rfl ?_))
      exact ⟨rfl, HX.out⟩

/-- the writer's own blocks stay apart from a list -/
theorem Tb.Ok.byte {n : Nat} {T : Tb} (h : T.Ok n) (hn : n ≤ 64) : (∀ x ∈ T.place, 0 ≤ x ∧ x < 256) ∧ (∀ x ∈ T.spare, 0 ≤ x ∧ x < 256) ∧ (0 ≤ T.t0 ∧ T.t0 < 256) ∧ 0 ≤ T.t1 ∧ T.t1 < 256 := by
  have h2 := h.2.1
  unfold inN Tb.all Tb.tabs at h2
  refine ⟨fun x hx => ?_, fun x hx => ?_, ?_, ?_⟩
  · have := h2 x (by simp [hx]); omega
  · have := h2 x (by simp [hx]); omega
  · have := h2 T.t0 (by simp); omega
  · have := h2 T.t1 (by simp); omega
/-- as many numbers, each another one, as there are at most -/
theorem nodup_le {n : Nat} {l : List Int} (h1 : inN n l) (h2 : l.Nodup) : l.length ≤ n := by
  induction n generalizing l with
  | zero =>
    cases l with
    | nil => exact Nat.le_refl _
    | cons x l => have := h1 x (by simp); omega
  | succ n ih =>
    have h3 : (l.erase (n : Int)).length ≤ n := by
      refine ih (fun x hx => ?_) (h2.erase _)
      have hm := List.mem_of_mem_erase hx
      have := h1 x hm
      have hne : x ≠ (n : Int) := fun e => by
        subst e
        exact (List.Nodup.mem_erase_iff h2).mp hx |>.1 rfl
      omega
    have := List.length_erase (a := (n : Int)) (l := l)
    split at this <;> omega
theorem Tb.Ok.len {n : Nat} {T : Tb} (h : T.Ok n) : T.place.length + T.spare.length + 2 ≤ n := by
  have := nodup_le h.2.1 h.2.2
  simp only [Tb.all, Tb.tabs, List.length_append, List.length_cons, List.length_nil] at this
  omega
theorem encB_length (T : Tb) : (encB T).length = 8 + T.place.length + T.spare.length := by
  simp only [encB, List.length_append, listB_length, leAll_length, List.length_cons, List.length_nil]; omega
theorem RI.apartW {w : World} {vx v : Value} {xs : List Int} {p : Nat} (h : RI w vx xs) (hp : w.heap.size ≤ p) (hv : ∀ b, v.ownBlock = some b → w.heap.size ≤ b) : xs = [] ∨ ApartW vx p v := by
  by_cases e : xs = []
  · exact .inl e
  · refine .inr fun b o n c he => ?_
    have hlt := RV.lt h (by cases xs; exact absurd rfl e; simp) b o n c he
    exact ⟨by omega, fun hh => by have := hv b hh; omega⟩

def EncEnds (b : Nat) (T : Tb) (w : World) (e : Ending) (w' : World) : Prop :=
  Below w.heap.size w w' ∧ (T.Ok b ∧ (∃ x, e = .returned (.tuple #[x, .int .i64 0]) ∧ w'.ownsRow w.heap.size 5 1 x (encB T).length ((encB T).map u8v)) ∨ ¬ T.Ok b ∧ e = .returned (.tuple #[.slice none 0 0, .int .i64 62]))

set_option maxRecDepth 100000 in
set_option maxHeartbeats 1000000 in
theorem encode_calls (c b p s : Nat) (T : Tb) (vp vs : Value) (w : World) (hT : TabAt w T vp vs) (hg : geoOk c b p s) (hpl : T.place.length ≤ 1000) (hsl : T.spare.length ≤ 1000) :
    Calls Try.prog 25 #[tabV T vp vs, geoV c b p s] w (EncEnds b T w) := by
  have hyes : T.Ok b → ∀ x w', w'.ownsRow w.heap.size 5 1 x (encB T).length ((encB T).map u8v) → Below w.heap.size w w' → EncEnds b T w (.returned (.tuple #[x, .int .i64 0])) w' := fun h x w' h1 hb => ⟨hb, .inl ⟨h, x, rfl, h1⟩⟩
  have hno : ¬ T.Ok b → ∀ w', Below w.heap.size w w' → EncEnds b T w (.returned (.tuple #[.slice none 0 0, .int .i64 62])) w' := fun h w' hb => ⟨hb, .inr ⟨h, rfl⟩⟩
  generalize EncEnds b T w = Post at hyes hno ⊢
  have HY := Lib.hid hyes
  have HN := Lib.hid hno
  clear hyes hno
  have hal := ((Below.refl w.heap.size w).alloc (Nat.le_refl _) (.cells (T.cells vp vs) 57)).alloc (by simp) (.cells #[.int .i64 c, .int .i64 b, .int .i64 p, .int .i64 s] 28)
  have hQ : ((w.alloc (.cells (T.cells vp vs) 57)).alloc (.cells #[.int .i64 c, .int .i64 b, .int .i64 p, .int .i64 s] 28)).heap[w.heap.size]? = some (.cells (T.cells vp vs) 57 (0, 0)) := heap_old _ (heap_is rfl)
  have hG : ((w.alloc (.cells (T.cells vp vs) 57)).alloc (.cells #[.int .i64 c, .int .i64 b, .int .i64 p, .int .i64 s] 28)).heap[w.heap.size + 1]? = some (.cells #[.int .i64 c, .int .i64 b, .int .i64 p, .int .i64 s] 28 (0, 0)) := heap_is (by simp)
  obtain ⟨ap, cp, rfl, hp1, hp2⟩ := hT.p.form
  obtain ⟨ax, cx, rfl, hq1, hq2⟩ := hT.s.form
  obtain ⟨q, hq⟩ : ∃ q, q = w.heap.size := ⟨_, rfl⟩
  have hch := tcheck_calls c b p s T _ _ _ (hT.below hal) hg hpl hsl
  unfold tabV at hch
  unfold Tb.cells at hal hQ hG hch
  generalize hw1 : (w.alloc (.cells #[.int .u32 T.seq, .slice ap T.place.length cp, .slice ax T.spare.length cx, .int .i64 T.t0, .int .i64 T.t1] 57)).alloc (.cells #[.int .i64 c, .int .i64 b, .int .i64 p, .int .i64 s] 28) = w1 at hal hQ hG hch
  have HW := Lib.hid hw1
  clear hw1
  rw [← hq] at hQ hG
  have p0 := cells_at hQ 0 _ rfl
  have p1 := cells_at hQ 1 _ rfl
  have p2 := cells_at hQ 2 _ rfl
  have p3 := cells_at hQ 3 _ rfl
  have p4 := cells_at hQ 4 _ rfl
  have k0 := cells_at hG 0 _ rfl
  have k1 := cells_at hG 1 _ rfl
  have k2 := cells_at hG 2 _ rfl
  have k3 := cells_at hG 3 _ rfl
  simp only [List.getElem_toArray, List.getElem_cons_succ, List.getElem_cons_zero] at p0 p1 p2 p3 p4 k0 k1 k2 k3
  have hlg := heap_lt hG
  have hlq := heap_lt hQ
  have HX := Lib.hid (⟨hch, hal, hQ, hT⟩ : _ ∧ _ ∧ _ ∧ _)
  have HQW := Lib.hid hq
  obtain ⟨g1, g2, g3, g4, -⟩ := hg
  clear hal hQ hG hT hch
  unfold tabV Tb.cells
  go_enter Try.func25, Try.ntmps25
  go_wp2_with fail
  rw [HW.out, ← hq]
  clear hq HW
  go_wp2_with fail
  refine HX.out.1.mono ?_
  rintro e w2 ⟨rfl, hb2⟩
  obtain ⟨-, hal, hQ, hT⟩ := HX.out
  have hB2 := hal.trans (hb2.mono hal.size)
  have hQ2 := heap_keep hb2 hQ
  clear p0 p1 p2 p3 p4 k0 k1 k2 k3 hlg hlq hal hQ hb2 HX
  by_cases hok : T.Ok b
  rotate_left
  · have he : T.err b = 62 := by unfold Tb.err; rw [if_neg hok]
    rw [he]
    have HE := Lib.hid (HN.out hok w2 hB2)
    clear hok he hB2 hQ2 hT
    go_wp2_with fail
    exact HE.out
  · have he : T.err b = 0 := by unfold Tb.err; rw [if_pos hok]
    rw [he]
    obtain ⟨hb1, hb2, hb3, hb4⟩ := hok.byte (by omega)
    have hlen := hok.len
    obtain ⟨n0, hn0⟩ : ∃ n : Nat, T.t0 = n := ⟨T.t0.toNat, by omega⟩
    obtain ⟨n1, hn1⟩ : ∃ n : Nat, T.t1 = n := ⟨T.t1.toNat, by omega⟩
    have hseq := hT.seq
    obtain ⟨pw, hpw⟩ : ∃ pw, pw = w2.heap.size := ⟨_, rfl⟩
    have hal3 := ((Below.refl w2.heap.size w2).alloc (Nat.le_refl _) (.cells #[.slice none 0 0] 115))
    have hP3 : (w2.alloc (.cells #[.slice none 0 0] 115)).heap[pw]? = some (.cells #[.slice none 0 0] 115 (0, 0)) := heap_is hpw
    have hQ3 := heap_keep hal3 hQ2
    have hT3 := hT.below (hB2.trans (hal3.mono hB2.size))
    have hB3 := hB2.trans (hal3.mono hB2.size)
    have hs3 : (w2.alloc (.cells #[.slice none 0 0] 115)).heap.size = pw + 1 := by rw [hpw]; simp
    have hwp : w.heap.size ≤ pw := by rw [hpw]; exact hB2.size
    generalize hw3 : w2.alloc (.cells #[.slice none 0 0] 115) = w3 at hal3 hP3 hQ3 hT3 hB3 hs3
    have HW3 := Lib.hid hw3
    have hW3 : Wr w3 pw (pw + 1) (.slice none 0 0) [] := Wr.empty hP3 (by omega) (by omega)
    have hal4 := (Below.refl w3.heap.size w3).alloc (Nat.le_refl _) (.cells #[.int .u32 T.seq] 35)
    have h4 := wU32_calls pw (pw + 1) _ (.slice (some ⟨w3.heap.size, 0, none⟩) 1 1) [] [T.seq] _ (hW3.below hal4) (RV.single _ _) (ApartW.new hW3) (by simpa using hseq) (by simp) (by simp)
    have hq3 := cells_at hQ3 0 _ rfl
    have hlq3 := heap_lt hQ3
    simp only [List.getElem_toArray, List.getElem_cons_succ, List.getElem_cons_zero] at hq3
    have hqp : q < pw := by have := heap_lt hQ2; omega
    have HB := Lib.hid (⟨hb1, hb2, hlen⟩ : _ ∧ _ ∧ _)
    have HPW := Lib.hid hpw
    have H3 := Lib.hid (⟨h4, hal4, hW3, hQ3, hB3⟩ : _ ∧ _ ∧ _ ∧ _ ∧ _)
    have HOK := Lib.hid hok
    have HS3 := Lib.hid hs3
    clear hs3
    have HT0 := Lib.hid hT
    clear he hw3 hal4 hW3 h4 hQ3 hT3 hB3 hQ2 hT hB2 hP3 hal3 hb1 hb2 hpw hok hlen
    rw [show ((0 : Nat) : Int) = 0 from rfl]
    go_upto_region 5 with (fail)
    rw [HW3.out, ← HPW.out]
    go_wp2_with fail
    refine H3.out.1.mono ?_
    rintro e w4 ⟨rfl, v4, hW4, hg4⟩
    obtain ⟨-, hal4, hW3, hQ3, hB3⟩ := H3.out
    have hO4 : Only (fun x => x = pw ∨ pw + 1 ≤ x) w3 w4 := (Only.new hal4 _).trans (hg4.keeps (hW3.below hal4)) fun _ _ h => h
    have hQ4 := hO4.at hQ3 (by omega)
    have q1 := cells_at hQ4 1 _ rfl
    have hlq4 := heap_lt hQ4
    simp only [List.getElem_toArray, List.getElem_cons_succ, List.getElem_cons_zero] at q1
    have hB4 := hB3.trans (hO4.below hB3.size fun x hx h => by omega)
    have h5 := list_calls pw (pw + 1) v4 (.slice ap T.place.length cp) _ T.place w4 hW4 (HT0.out.p.below hB4) (RI.apartW HT0.out.p hwp fun x hx => by have := (hW4.own.lt x hx).1; omega) HB.out.1 (by have := HB.out.2.2; omega) (by simp [leAll_length])
    have H4 := Lib.hid (⟨h5, hW4, hQ4, hB4⟩ : _ ∧ _ ∧ _ ∧ _)
    clear h5 hW4 hQ4 hB4 hO4 hal4 hW3 hQ3 hB3 hg4 hq3 hlq3 H3 HW3
    go_wp2_with fail
    refine H4.out.1.mono ?_
    rintro e w5 ⟨rfl, v5, hW5, hg5⟩
    obtain ⟨-, hW4, hQ4, hB4⟩ := H4.out
    have hO5 := hg5.keeps hW4
    have hQ5 := hO5.at hQ4 (by omega)
    have q2 := cells_at hQ5 2 _ rfl
    have hlq5 := heap_lt hQ5
    simp only [List.getElem_toArray, List.getElem_cons_succ, List.getElem_cons_zero] at q2
    have hB5 := hB4.trans (hO5.below hB4.size fun x hx h => by omega)
    have h6 := list_calls pw (pw + 1) v5 (.slice ax T.spare.length cx) _ T.spare w5 hW5 (HT0.out.s.below hB5) (RI.apartW HT0.out.s hwp fun x hx => by have := (hW5.own.lt x hx).1; omega) HB.out.2.1 (by have := HB.out.2.2; omega) (by simp only [List.length_append, listB_length, leAll_length, List.length_cons, List.length_nil]; have := HB.out.2.2; omega)
    have H5 := Lib.hid (⟨h6, hW5, hQ5, hB5⟩ : _ ∧ _ ∧ _ ∧ _)
    clear h6 hW5 hQ5 hB5 hO5 hW4 hQ4 hB4 hg5 H4 q1 hlq4
    go_wp2_with fail
    refine H5.out.1.mono ?_
    rintro e w6 ⟨rfl, v6, hW6, hg6⟩
    obtain ⟨-, hW5, hQ5, hB5⟩ := H5.out
    have hO6 := hg6.keeps hW5
    have hQ6 := hO6.at hQ5 (by omega)
    have q3 := cells_at hQ6 3 _ rfl
    have q4 := cells_at hQ6 4 _ rfl
    have hlq6 := heap_lt hQ6
    simp only [List.getElem_toArray, List.getElem_cons_succ, List.getElem_cons_zero] at q3 q4
    rw [hn0] at q3
    rw [hn1] at q4
    have hB6 := hB5.trans (hO6.below hB5.size fun x hx h => by omega)
    have e0 : IntKind.u8.wrap (n0 : Int) = (n0 : Int) := IntWalk.u8_in _ ⟨by omega, by omega⟩
    have e1 : IntKind.u8.wrap (n1 : Int) = (n1 : Int) := IntWalk.u8_in _ ⟨by omega, by omega⟩
    have hal7 := (Below.refl w6.heap.size w6).alloc (Nat.le_refl _) (.cells #[.int .u8 n0, .int .u8 n1] 5)
    have hrv : RV (w6.alloc (.cells #[.int .u8 n0, .int .u8 n1] 5)) (.slice (some ⟨w6.heap.size, 0, none⟩) 2 2) ([n0, n1].map fun (n : Nat) => Value.int .u8 (n : Int)) := RV.cells (heap_is rfl) rfl (by omega) rfl
    have hln : ([] ++ leAll 4 [T.seq] ++ listB T.place ++ listB T.spare).length ≤ 1000 := by simp only [List.length_append, listB_length, leAll_length, List.length_cons, List.length_nil]; have := HB.out.2.2; omega
    have h7 := wU8_calls pw (pw + 1) v6 _ _ [n0, n1] _ (hW6.below hal7) hrv (ApartW.new hW6) (fun n hn => by simp at hn; omega) (by omega) (by simp)
    have hee : [] ++ leAll 4 [T.seq] ++ listB T.place ++ listB T.spare ++ leAll 1 [n0, n1] = encB T := by unfold encB; rw [hn0, hn1]; rfl
    have H6 := Lib.hid (⟨h7, hal7, hW6, hB6, hee, hln⟩ : _ ∧ _ ∧ _ ∧ _ ∧ _ ∧ _)
    clear h7 hW6 hQ6 hB6 hO6 hW5 hQ5 hB5 hg6 H5 q2 hlq5 hal7 hrv hee hln
    go_wp2_with fail
    refine H6.out.1.mono ?_
    rintro e w7 ⟨rfl, v7, hW7, hg7⟩
    obtain ⟨-, hal7, hW6, hB6, hee, hln⟩ := H6.out
    have hO7 : Only (fun x => x = pw ∨ pw + 1 ≤ x) w6 w7 := (Only.new hal7 _).trans (hg7.keeps (hW6.below hal7)) fun _ _ h => h
    have hB7 := hB6.trans (hO7.below hB6.size fun x hx h => by omega)
    rw [hee] at hW7
    have h8 := wBytes_calls pw (pw + 1) v7 _ w7 hW7 (by rw [encB_length]; have := HB.out.2.2; omega)
    have H7 := Lib.hid (⟨h8, hB7⟩ : _ ∧ _)
    clear h8 hB7 hW7 hO7 hal7 hW6 hB6 hee hln hg7 H6 q3 q4 hlq6 e0 e1
    go_wp2_with fail
    refine H7.out.1.mono ?_
    rintro e w8 ⟨x, rfl, hx, hb8⟩
    have HE := Lib.hid (HY.out HOK.out x w8 (own_mono hx H7.out.2.size) (H7.out.2.trans (hb8.mono H7.out.2.size)))
    clear hx hb8 H7
    go_wp2_with fail
    exact HE.out
end Go.Proofs.Ytogejjbclimjjaa
