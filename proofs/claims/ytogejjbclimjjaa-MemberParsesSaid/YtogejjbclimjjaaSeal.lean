/- record.Seal: what stands beside a page. -/
--only r2
import Derived.Test.YtogejjbclimjjaaRecord
import Derived.Test.YtogejjbclimjjaaWriterP
import Derived.Test.YtogejjbclimjjaaSum
namespace Go.Proofs.Ytogejjbclimjjaa
set_option linter.unusedVariables false
set_option linter.unusedSimpArgs false
open Go.RowKit

theorem Grow.below {p base : Nat} {v v' : Value} {l : List UInt8} {w w' : World} (h : Grow p v v' w w') (hw : Wr w p base v l) : Below p w w' :=
  (h.keeps hw).below (by have := hw.le; have := hw.lt; omega) fun b hb h' => by have := hw.lt; rcases h' with h' | h' <;> omega
/-- bytes that lie below a writer's base stay -/
theorem RB.beside {p base : Nat} {x : Value} {m : List UInt8} {w0 w' : World} (hx : RB w0 x m) (h0 : Only (fun b => b = p ∨ base ≤ b) w0 w') (hb : w0.heap.size ≤ base) (hn : NoByte w0 p) : RB w' x m :=
  hx.only h0 fun b hlt h => by
    rcases h with rfl | h
    · exact hn
    · omega
theorem noByte_writer {w : World} {p : Nat} {a : Option Addr} {n c : Nat} {t : TypeId} {fz : Nat × Nat} (h : w.heap[p]? = some (.cells #[.slice a n c] t fz)) : NoByte w p := noByte_of h (nb1 (nb_slice _ _ _))

/-- what is laid beside: 32 bytes -/
def tailB (m : List UInt8) : List UInt8 := m.take 32 ++ List.replicate (32 - (m.take 32).length) 0
theorem tailB_length (m : List UInt8) : (tailB m).length = 32 := by simp [tailB]; omega
def sumOf3 (f d t : List UInt8) : Nat := (crcOf ([f, d, t] : List (List UInt8)).flatten).toNat
def sealB (h : Hdr) (data m : List UInt8) : List UInt8 :=
  ((h.bytes ++ leBytes 4 (sumOf3 h.bytes data (tailB m))) ++ List.replicate (32 - (h.bytes ++ leBytes 4 (sumOf3 h.bytes data (tailB m))).length) 0) ++ tailB m
theorem Hdr.bytes_length (h : Hdr) : h.bytes.length = 24 := by simp [Hdr.bytes, leAll_length]

set_option maxRecDepth 100000 in
set_option maxHeartbeats 1000000 in
theorem seal_calls (h : Hdr) (ho : h.Ok) (vd vm : Value) (data m : List UInt8) (w : World) (hd : RB w vd data) (hm : RB w vm m) (hdl : data.length ≤ 1000000) :
    Calls Try.prog 58 #[h.v, vd, vm] w fun e w' => ∃ x, e = .returned x ∧ w'.ownsRow w.heap.size 5 1 x (sealB h data m).length ((sealB h data m).map u8v) ∧ Below w.heap.size w w' := by
  have hfl := h.bytes_length
  have F := fun w => fields_calls h ho w
  obtain ⟨i, hi, hz0, hz1, hz2⟩ := info_parts infoU8
  obtain ⟨am, cm, rfl, hml, hmm⟩ := hm.form
  obtain ⟨ad, cd, rfl, hdl2, hdm⟩ := hd.form
  unfold maxLen at hmm hdm
  have hcut : 32 < m.length → RB w (cutV am cm 0 32) (m.take 32) := fun h32 => by
    have := RV.cut hm (i := 0) (j := 32) (by omega) (by simp; omega)
    unfold RB
    simpa [List.map_take] using this
  have hrun : 32 < m.length → ∀ w, (Instr.sliceAt 23 (.slice am m.length cm) none (some (.int .i64 32)) none).run Try.prog w = .ok (cutV am cm 0 32) w := fun hc w => run_cut_to Try.underlying23 hi hz1 am m.length cm 32 (by omega) w
  have hT : ∃ tb, tb = tailB m := ⟨_, rfl⟩
  obtain ⟨tb, htb⟩ := hT
  have htl : tb.length = 32 := by rw [htb]; exact tailB_length m
  have hS : sealB h data m = ((h.bytes ++ leBytes 4 (sumOf3 h.bytes data tb)) ++ List.replicate (32 - (h.bytes ++ leBytes 4 (sumOf3 h.bytes data tb)).length) 0) ++ tb := by rw [htb]; rfl
  rw [hS]
  clear hS
  generalize h.bytes = fb at hfl F ⊢
  obtain ⟨sn, hsn⟩ : ∃ sn, sn = sumOf3 fb data tb := ⟨_, rfl⟩
  have hsl : sn < 4294967296 := by rw [hsn]; exact BitVec.isLt _
  rw [← hsn]
  have HSN := Lib.hid hsn
  have HSL := Lib.hid hsl
  clear hsn hsl
  obtain ⟨k, ep, ba, ix, ct, bk, mo⟩ := h
  clear ho
  simp only [Hdr.v, Hdr.cells] at F ⊢
  go_enter Try.func58, Try.ntmps58
  go_wp2_with fail
  obtain ⟨w1, hw1⟩ : ∃ w1, w1 = (w.alloc (.cells #[.int .u8 (k : Int), .int .u32 (ep : Int), .int .u32 (ba : Int), .int .u16 (ix : Int), .int .u16 (ct : Int), .int .u32 (bk : Int), .int .u32 (mo : Int)] 98)).alloc (.cells #[.slice none 0 0] 115) := ⟨_, rfl⟩
  have hP : w1.heap[w.heap.size + 1]? = some (.cells #[.slice none 0 0] 115 (0, 0)) := by rw [hw1]; exact heap_is (by simp)
  have hbel : Below w.heap.size w w1 := by rw [hw1]; exact ((Below.refl w.heap.size w).alloc (Nat.le_refl _) _).alloc (by simp) _
  have hsz : w1.heap.size = w.heap.size + 2 := by rw [hw1]; simp
  rw [← hw1]
  clear hw1
  obtain ⟨p, hp⟩ : ∃ p, p = w.heap.size + 1 := ⟨_, rfl⟩
  rw [← hp] at hP ⊢
  refine (F w1).mono ?_
  rintro e w2 ⟨fv, rfl, hfo, hb2⟩
  clear F
  replace hP := heap_keep hb2 hP
  have hbel2 : Below w.heap.size w w2 := hbel.trans (hb2.mono (by omega))
  replace hd := hd.below hbel2
  replace hm := hm.below hbel2
  have hcut2 := fun h => (hcut h).below hbel2
  have hs2 := hb2.size
  have hne : m.length ≤ 32 → m ++ List.replicate (32 - m.length) 0 = tb := fun h => by rw [htb, tailB, List.take_of_length_le h]
  have hge : 32 < m.length → m.take 32 ++ List.replicate (32 - (m.take 32).length) 0 = tb := fun h => by rw [htb, tailB]
  have hsv : m.length < 9223372036854775808 := by omega
  have hmid : ∃ (vb : Value) (mb : List UInt8), RB w2 vb mb ∧ mb.length ≤ 32 ∧ mb ++ List.replicate (32 - mb.length) 0 = tb ∧ (32 < m.length → vb = cutV am cm 0 32) ∧ (¬ 32 < m.length → vb = .slice am m.length cm) := by
    by_cases h32 : 32 < m.length
    · exact ⟨_, _, hcut2 h32, by simp; omega, hge h32, fun _ => rfl, fun h => absurd h32 h⟩
    · exact ⟨_, _, hm, by omega, hne (by omega), fun h => absurd h h32, fun _ => rfl⟩
  obtain ⟨vb, mb, hvb, hmb, hmt, hv1, hv2⟩ := hmid
  have HMT := Lib.hid hmt
  clear hmt hne hge htb hcut hcut2 hm
  obtain ⟨w3, hw3⟩ : ∃ w3, w3 = w2.alloc (.cells #[.slice none 0 0] 115) := ⟨_, rfl⟩
  have hb3 : Below w2.heap.size w2 w3 := by rw [hw3]; exact (Below.refl _ _).alloc (Nat.le_refl _) _
  have hs3 : w3.heap.size = w2.heap.size + 1 := by rw [hw3]; simp
  have hQ : w3.heap[w2.heap.size]? = some (.cells #[.slice none 0 0] 115 (0, 0)) := by rw [hw3]; exact heap_new _ _
  have hW2 : Wr w3 w2.heap.size (w2.heap.size + 1) (.slice none 0 0) [] := Wr.empty hQ (by omega) (by omega)
  have hlow : ∀ w', Below w2.heap.size w2 w' → Below w.heap.size w w' := fun w' h => hbel2.trans (h.mono (by omega))
  have HLOW := Lib.hid hlow
  have HPP := Lib.hid hP
  have HP := Lib.hid hp
  have HS2 := Lib.hid (show w.heap.size + 2 ≤ w2.heap.size by omega)
  have HV1 := Lib.hid hv1
  have HV2 := Lib.hid hv2
  replace hfo : RB w2 fv fb := RV.own hfo
  obtain ⟨af, cf, rfl, -, -⟩ := hfo.form
  have HD := Lib.hid hd
  have HF := Lib.hid hfo
  have HFL := Lib.hid (show fb.length ≤ 24 by omega)
  have HTL := Lib.hid (show tb.length ≤ 32 by omega)
  clear hfl htl
  clear hv1 hv2 hp hs2 hlow hQ hsz hbel hb2 hd hfo hP
  by_cases h32 : 32 < m.length
  all_goals
    try replace hrun := hrun h32
    go_wp2_with fail
    first | rw [← HV1.out h32, ← hw3] | rw [← HV2.out h32, ← hw3]
    clear hw3
    refine (wRaw_calls _ _ _ vb [] mb w3 hW2 (hvb.below hb3) (by simp) (by omega)).mono ?_
    rintro e w4 ⟨rfl, v4, hW4, hg4⟩
    have hb4 := hg4.below hW2
    have hs4 := hb4.size
    clear hW2 hg4 hvb
    go_wp2_with fail
    refine (wPad_calls _ _ 32 v4 _ w4 hW4 (by simp; omega) (by omega)).mono ?_
    rintro e w5 ⟨rfl, v5, hW5, hg5⟩
    have hb5 := hb4.trans (hg5.below hW4)
    have hs5 := hb5.size
    clear hb4 hW4 hg5
    have hl5 : (([] : List UInt8) ++ mb) ++ List.replicate (32 - (([] : List UInt8) ++ mb).length) 0 = tb := by
      rw [List.nil_append]; exact HMT.out
    rw [hl5] at hW5
    clear hl5
    go_wp2_with fail
    refine (wBytes_calls _ _ v5 _ w5 hW5 (by have := HTL.out; omega)).mono ?_
    rintro e w6 ⟨tv, rfl, hto, hb6⟩
    have hb26 : Below w2.heap.size w2 w6 := hb3.trans (hb5.trans (hb6.mono (by omega)))
    have hs6 := hb26.size
    have htv : RB w6 tv tb := RV.own hto
    obtain ⟨at', ct', rfl, -, -⟩ := htv.form
    have hd6 := HD.out.below hb26
    have hf6 := HF.out.below hb26
    have hP6 := heap_keep hb26 HPP.out
    clear hW5 hb5 hto hb6 hs3 hs4 hs5 hb3
    have hW := Wr.empty (base := w6.heap.size) hP6 (by rw [HP.out]; have := HS2.out; omega) (Nat.le_refl _)
    have hnb := noByte_writer hP6
    clear hP6
    go_wp2_with fail
    refine (wRaw_calls p _ _ (.slice af fb.length cf) [] fb w6 hW hf6 (by simp) (by have := HFL.out; omega)).mono ?_
    rintro e w7 ⟨rfl, v7, hW7, hg7⟩
    rw [List.nil_append] at hW7
    have hO7 := hg7.keeps hW
    clear hg7 hW
    go_wp2_with fail
    have hf7 := RB.beside hf6 hO7 (Nat.le_refl _) hnb
    have hd7 := RB.beside hd6 hO7 (Nat.le_refl _) hnb
    have ht7 := RB.beside htv hO7 (Nat.le_refl _) hnb
    obtain ⟨w8, hw8⟩ : ∃ w8, w8 = w7.alloc (.cells #[.slice af fb.length cf, .slice ad data.length cd, .slice at' tb.length ct'] 23) := ⟨_, rfl⟩
    have hb8 : Below w7.heap.size w7 w8 := by rw [hw8]; exact (Below.refl _ _).alloc (Nat.le_refl _) _
    have hN : w8.heap[w7.heap.size]? = some (.cells #[.slice af fb.length cf, .slice ad data.length cd, .slice at' tb.length ct'] 23 (0, 0)) := by rw [hw8]; exact heap_new _ _
    rw [← hw8]
    clear hw8
    have hR3 := RBB.cell3 (cells_at hN 0 _ rfl) (cells_at hN 1 _ rfl) (cells_at hN 2 _ rfl) (hf7.below hb8) (hd7.below hb8) (ht7.below hb8)
    have hsum : Calls Try.prog 72 #[.slice (some ⟨w7.heap.size, 0, none⟩) 3 3] w8 fun e w' => e = .returned (.int .u32 (sn : Int)) ∧ w8 = w' := (sum_of _ _ w8 hR3).mono fun e w' h => ⟨by rw [h.1, HSN.out]; rfl, h.2⟩
    clear hR3 hN hf7 hd7 ht7
    refine hsum.mono ?_
    rintro e w8' ⟨rfl, rfl⟩
    have hW8 := hW7.below hb8
    have hO8 : Only (fun b => b = p ∨ w6.heap.size ≤ b) w6 w8 := hO7.trans (Only.new hb8 fun _ => False) fun _ _ => False.elim
    clear hW7 hO7 hb8 hsum
    go_wp2_with fail
    obtain ⟨w9, hw9⟩ : ∃ w9, w9 = w8.alloc (.cells #[.int .u32 (sn : Int)] 35) := ⟨_, rfl⟩
    have hb9 : Below w8.heap.size w8 w9 := by rw [hw9]; exact (Below.refl _ _).alloc (Nat.le_refl _) _
    have hrow : RV w9 (.slice (some ⟨w8.heap.size, 0, none⟩) 1 1) ([sn].map fun (n : Nat) => Value.int .u32 (n : Int)) := by rw [hw9]; exact RV.single _ _
    rw [← hw9]
    clear hw9
    have hns : ∀ n ∈ [sn], n < 4294967296 := fun n hn => by rw [List.mem_singleton.mp hn]; exact HSL.out
    refine (wU32_calls p w6.heap.size v7 _ fb [sn] w9 (hW8.below hb9) hrow (ApartW.new hW8) hns (by have := HFL.out; omega) (by simp)).mono ?_
    rintro e w10 ⟨rfl, v10, hW10, hg10⟩
    have hO9 := hO8.trans (Only.new hb9 fun _ => False) fun _ _ => False.elim
    have hO10 := hO9.trans (hg10.keeps (hW8.below hb9)) fun b hb h => h
    clear hW8 hO8 hO9 hb9 hrow hg10
    have h4 : (leAll 4 [sn]).length = 4 := by simp [leAll_length]
    have hl10 : (fb ++ leAll 4 [sn]).length ≤ 28 := by rw [List.length_append, h4]; have := HFL.out; omega
    have he4 : leAll 4 [sn] = leBytes 4 sn := by simp [leAll]
    rw [he4] at hW10 hl10
    have HL10 := Lib.hid hl10
    clear h4 he4 hl10
    generalize hm10 : fb ++ leBytes 4 sn = m10 at hW10 HL10
    have HM10 := Lib.hid hm10
    clear hm10
    go_wp2_with fail
    refine (wPad_calls p _ 32 v10 m10 w10 hW10 (by have := HL10.out; omega) (by omega)).mono ?_
    rintro e w11 ⟨rfl, v11, hW11, hg11⟩
    have hO11 := hO10.trans (hg11.keeps hW10) fun b hb h => h
    clear hW10 hO10 hg11
    have hl11 : (m10 ++ List.replicate (32 - m10.length) 0).length ≤ 60 := by simp; have := HL10.out; omega
    have HL11 := Lib.hid hl11
    clear hl11
    generalize hm11 : m10 ++ List.replicate (32 - m10.length) 0 = m11 at hW11 HL11
    have HM11 := Lib.hid hm11
    clear hm11
    go_wp2_with fail
    refine (wRaw_calls p _ v11 (.slice at' tb.length ct') m11 tb w11 hW11 (RB.beside htv hO11 (Nat.le_refl _) hnb) (by have := HL11.out; omega) (by have := HTL.out; omega)).mono ?_
    rintro e w12 ⟨rfl, v12, hW12, hg12⟩
    have hO12 := hO11.trans (hg12.keeps hW11) fun b hb h => h
    clear hW11 hO11 hg12
    go_wp2_with fail
    refine (wBytes_calls p _ v12 _ w12 hW12 (by rw [List.length_append]; have := HL11.out; have := HTL.out; omega)).mono ?_
    rintro e w13 ⟨x, rfl, hx, hb13⟩
    have hO13 := hO12.trans (Only.new hb13 fun _ => False) fun _ _ => False.elim
    have hend : Below w.heap.size w w13 := (HLOW.out _ hb26).trans (hO13.below (by have := HS2.out; omega) fun b hb h => by
      have := HS2.out
      have := HP.out
      rcases h with h | h <;> omega)
    have hx' := own_mono (base := w.heap.size) hx (by have := hO12.size; have := HS2.out; omega)
    clear hW12 hO12 hO13 hb13 hx hb26
    go_wp2_with fail
    go_ret
    rw [HM10.out, HM11.out]
    exact ⟨_, rfl, hx', hend⟩
end Go.Proofs.Ytogejjbclimjjaa
