/- NandOrders: the walk. -/
--only r2
import Derived.Test.YtphnjiokihbhnaaNandLaw
import Derived.Test.YtphnjiokihbhnaaOpenI
namespace Go.Proofs.Ytphnjiokihbhnaa.lawNandOrders
set_option linter.unusedVariables false
set_option linter.unusedSimpArgs false
open Go.RowKit Go.ChangeShapes Go.WideShapes

structure Ord (M : Nd) (n k : Nat) : Prop where
  evs : M.evs = []
  off : M.off = false
  mem : M.mem = 3
  blk : M.blk = 16
  pgs : M.pgs = 4
  siz : M.siz = 256
  gone : M.gone 1 = false
  bad : M.bad 1 2 = false
  next : M.next 1 2 = n
  le : n ≤ 4
  ops : M.ops ≤ k
theorem Ord.inside {M : Nd} {n k : Nat} (h : Ord M n k) : M.inside 1 2 := by
  have := h.mem
  have := h.blk
  unfold Nd.inside; omega
theorem Ord.erase {M : Nd} {n k : Nat} (h : Ord M n k) : ∃ M', M.erase 1 2 = (M', 0) ∧ Ord M' 0 (k + 1) := by
  refine ⟨_, erase_quiet h.evs h.off h.inside h.gone h.bad, h.evs, h.off, h.mem, h.blk, h.pgs, h.siz, h.gone, h.bad, upd2_same M.next 1 2 0, by omega, ?_⟩
  have := h.ops
  show M.ops + 1 ≤ k + 1
  omega
theorem Ord.step {M : Nd} {n k : Nat} (h : Ord M n k) : Ord { M with ops := M.ops + 1 } n (k + 1) :=
  ⟨h.evs, h.off, h.mem, h.blk, h.pgs, h.siz, h.gone, h.bad, h.next, h.le, by have := h.ops; show M.ops + 1 ≤ k + 1; omega⟩
theorem Ord.far {M : Nd} {n k : Nat} (h : Ord M n k) (p : Int) (hp : 3 < p) (d o : List UInt8) : ∃ M', M.program 1 2 p d o = (M', 34) ∧ Ord M' n (k + 1) := by
  refine ⟨_, ?_, h.step⟩
  rw [prog_quiet h.evs h.off h.inside h.gone h.bad, if_pos]
  intro hh
  have := h.pgs
  have := hh.1.2
  omega
theorem Ord.good {M : Nd} {n k : Nat} (h : Ord M n k) (p : Int) (h0 : 0 ≤ p) (hp : ¬ 3 < p) (he : p = n) (d o : List UInt8) (hd : d.length = 256) (ho : o.length = 64) : ∃ M', M.program 1 2 p d o = (M', 0) ∧ Ord M' (n + 1) (k + 1) := by
  have h1 := h.next
  have h2 := h.pgs
  have h3 := h.siz
  refine ⟨{ M with ops := M.ops + 1 }.lay 1 2 p.toNat (d ++ o), by rw [prog_quiet h.evs h.off h.inside h.gone h.bad, if_neg (fun hh => hh ⟨⟨by omega, by omega⟩, by omega, ho⟩), if_neg (fun hh => hh (by show p = (M.next 1 2 : Int); omega))]; rfl, h.evs, h.off, h.mem, h.blk, h.pgs, h.siz, h.gone, h.bad, ?_, by omega, ?_⟩
  · show upd2 M.next 1 2 (M.next 1 2 + 1) 1 2 = n + 1
    rw [upd2_same]; omega
  · have := h.ops
    show M.ops + 1 ≤ k + 1
    omega
theorem Ord.wrong {M : Nd} {n k : Nat} (h : Ord M n k) (p : Int) (h0 : 0 ≤ p) (hp : ¬ 3 < p) (he : ¬ p = n) (d o : List UInt8) (hd : d.length = 256) (ho : o.length = 64) : ∃ M', M.program 1 2 p d o = (M', 73) ∧ Ord M' n (k + 1) := by
  have h1 := h.next
  have h2 := h.pgs
  have h3 := h.siz
  refine ⟨_, ?_, h.step⟩
  rw [prog_quiet h.evs h.off h.inside h.gone h.bad, if_neg (fun hh => hh ⟨⟨by omega, by omega⟩, by omega, ho⟩), if_pos (fun hh => he (by have hh : p = (M.next 1 2 : Int) := hh; omega))]

set_option maxRecDepth 100000 in
set_option maxHeartbeats 4000000 in
theorem law (v : Value) (row : List Int) (w : World) (hv : RI w v row) (hI : ∀ x ∈ row, I64 x) : Calls Try.prog 3 #[v] w (IsTrue w) := by
  obtain ⟨av, cv, rfl, hlc, hmc⟩ := hv.form
  unfold maxLen at hmc
  obtain ⟨k0, -, hk0, -, hshape⟩ := shape_calls 0 w
  have hk3 := hk0 rfl
  subst hk3
  clear hk0 hshape
  have hfin : ∀ w', Below w.heap.size w w' → IsTrue w (.returned (.bool true)) w' := fun w' h => ⟨rfl, h⟩
  generalize IsTrue w = Post at hfin ⊢
  have HF := Lib.hid hfin
  have HI := Lib.hid hI
  clear hfin hI
  by_cases hlen : 100 < row.length
  · go_enter Try.func3, Try.ntmps3
    go_wp2_with fail
    refine (begun_calls w).mono ?_
    rintro e w1 ⟨rfl, hb1⟩
    go_wp2_with fail
    refine (begun_calls w1).mono ?_
    rintro e w2 ⟨rfl, hb2⟩
    have HX := Lib.hid (HF.out _ (hb1.trans (hb2.mono hb1.size)))
    go_wp2_with fail
    exact HX.out
  · go_enter Try.func3, Try.ntmps3
    go_wp2_with fail
    refine (begun_calls w).mono ?_
    rintro e w1 ⟨rfl, hb1⟩
    go_wp2_with fail
    obtain ⟨k0, -, hk0, -, hshape⟩ := shape_calls 0 w1
    obtain rfl : k0 = 3 := hk0 rfl
    clear hk0
    refine hshape.mono ?_
    rintro e w2 ⟨rfl, hb2⟩
    have hB2 := hb1.trans (hb2.mono hb1.size)
    clear hshape hb1 hb2
    go_wp2_with fail
    refine (new_plain 3 (.inl rfl) w2).mono ?_
    rintro e w3 ⟨L, rfl, hN, hL, hb3⟩
    have hB3 := hB2.trans (hb3.mono hB2.size)
    have hLw : ∀ x, L.S x → w.heap.size ≤ x := fun x hx => Nat.le_trans hB2.size (hL x (NdLay.S_ne hx))
    clear hb3 hL hB2
    go_wp2_with fail
    refine (zeros_calls 256 w3 (by omega)).mono ?_
    rintro e w4 ⟨rfl, hw4⟩
    have hb4 : Below w3.heap.size w3 w4 := by rw [hw4]; exact (Below.refl _ _).alloc (Nat.le_refl _) _
    have hd4 : RB w4 (.slice (some ⟨w3.heap.size, 0, none⟩) 256 256) (List.replicate 256 0) := by
      rw [hw4]; exact RV.block (heap_new _ _) (by simp) (Nat.le_refl _) (by unfold maxLen; omega) (by simp)
    clear hw4
    have hN4 := hN.below hb4
    have hB4 := hB3.trans (hb4.mono hB3.size)
    generalize w3.heap.size = q1 at hd4 ⊢
    clear hN hB3 hb4
    go_wp2_with fail
    refine (zeros_calls 64 w4 (by omega)).mono ?_
    rintro e w5 ⟨rfl, hw5⟩
    have hb5 : Below w4.heap.size w4 w5 := by rw [hw5]; exact (Below.refl _ _).alloc (Nat.le_refl _) _
    have ho5 : RB w5 (.slice (some ⟨w4.heap.size, 0, none⟩) 64 64) (List.replicate 64 0) := by
      rw [hw5]; exact RV.block (heap_new _ _) (by simp) (Nat.le_refl _) (by unfold maxLen; omega) (by simp)
    clear hw5
    have hN5 := hN4.below hb5
    have hd5 := hd4.below hb5
    have hB5 := hB4.trans (hb5.mono hB4.size)
    generalize w4.heap.size = q2 at ho5 ⊢
    clear hN4 hB4 hb5 hd4
    obtain ⟨d, hd⟩ : ∃ d, d = List.replicate 256 (0 : UInt8) := ⟨_, rfl⟩
    obtain ⟨o, ho⟩ : ∃ o, o = List.replicate 64 (0 : UInt8) := ⟨_, rfl⟩
    have hdl : d.length = 256 := by rw [hd]; simp
    have hol : o.length = 64 := by rw [ho]; simp
    rw [← hd] at hd5
    rw [← ho] at ho5
    clear hd ho
    have HDL := Lib.hid hdl
    have HOL := Lib.hid hol
    clear hdl hol
    have hord : Ord (Nd.fresh 3 16 4 256 (fun _ _ => false) []) 0 0 := ⟨rfl, rfl, rfl, rfl, rfl, rfl, rfl, rfl, rfl, by omega, Nat.le_refl _⟩
    go_wp2_with fail
    go_loopw [7, 8] (fun nx i wr => ∃ (k n : Nat) (L' : NdLay) (M : Nd), k ≤ row.length ∧ nx = .int .i64 n ∧ i = .int .i64 k ∧ SameLay L L' ∧ NdAt true wr L' M ∧ Ord M n k ∧ RB wr (.slice (some ⟨q1, 0, none⟩) 256 256) d ∧ RB wr (.slice (some ⟨q2, 0, none⟩) 64 64) o ∧ Below w.heap.size w wr) (fun _ i _ => row.length - (intOf i).toNat)
    case atStart => exact ⟨0, 0, L, _, Nat.zero_le _, rfl, rfl, SameLay.refl L, hN5, hord, hd5, ho5, hB5⟩
    case round =>
      clear hN5 hord hd5 ho5 hB5
      obtain ⟨k, n, L', M, hk, rfl, rfl, hLL, hN, hord, hd, ho, hB⟩ := hrel
      by_cases hlt : k < row.length
      · obtain ⟨bb, bo, _, e2, -, -, hcell⟩ := (hv.below hB).out (by omega)
        simp only [Value.slice.injEq] at e2
        obtain ⟨rfl, -, -⟩ := e2
        have hc := hcell k hlt
        have hx := HI.out row[k] (List.getElem_mem _)
        generalize row[k] = x at hc hx
        have hbb := cell_lt hc
        obtain ⟨p, hp⟩ : ∃ p, p = x.tmod 5 := ⟨_, rfl⟩
        have hp5 : -5 < p ∧ p < 5 := by
          rw [hp]
          by_cases h : 0 ≤ x
          · rw [Int.tmod_eq_emod_of_nonneg h]; omega
          · obtain ⟨y, rfl⟩ : ∃ y, x = -y := ⟨-x, by omega⟩
            rw [Int.neg_tmod, Int.tmod_eq_emod_of_nonneg (by omega)]; omega
        clear hcell
        have hnb : ∀ y, L.S y → NoByte wr y := fun y hy => hN.noByte (by rw [hLL.S]; exact hy)
        have hops : M.ops < 1000000 := by have := hord.ops; omega
        have hHP := Lib.hid hp
        have hxp : x.tmod 5 = p := hp.symm
        have hle := hord.le
        by_cases hneg : p < 0
        · obtain ⟨M', he, ho'⟩ := hord.erase
          have hc1 := nerase_calls hN 1 2 (by decide) (by decide) hops
          rw [he, hLL.p] at hc1
          have HC := Lib.hid hc1
          clear hc1 he hp
          go_wp2_with fail
          refine HC.out.mono ?_
          rintro e w7 ⟨L7, hL7, rfl, hN7, hO7⟩
          rw [hLL.S] at hO7
          have hX := (⟨hN7, ho', hd.only hO7 (fun y _ => hnb y), ho.only hO7 (fun y _ => hnb y), hB.trans (hO7.below hB.size fun y hy h => by have := hLw y h; omega)⟩ : _ ∧ _ ∧ _ ∧ _ ∧ _)
          have HX := Lib.hid hX
          clear hX hN7 ho' hO7 hnb HC
          go_wp2_with fail
          obtain ⟨a1, a2, a3, a4, a5⟩ := HX.out
          go_roundw
          case rel => exact ⟨k + 1, 0, L7, M', by omega, rfl, by go_num, hLL.trans hL7, a1, a2, a3, a4, a5⟩
          case measure => simp [intOf]; omega
        · have hprog : ∀ M' e' n', M.program 1 2 p d o = (M', e') → Ord M' n' (k + 1) → Calls Try.prog 14 #[ptrV L.p, .int .i64 1, .int .i64 2, .int .i64 p, .slice (some ⟨q1, 0, none⟩) 256 256, .slice (some ⟨q2, 0, none⟩) 64 64] wr fun e w7 => e = .returned (.int .i64 e') ∧ ∃ L7, SameLay L L7 ∧ NdAt true w7 L7 M' ∧ Ord M' n' (k + 1) ∧ RB w7 (.slice (some ⟨q1, 0, none⟩) 256 256) d ∧ RB w7 (.slice (some ⟨q2, 0, none⟩) 64 64) o ∧ Below w.heap.size w w7 := fun M' e' n' he ho' => by
            have hc1 := nprog_calls hN 1 2 p _ _ d o (by decide) (by decide) ⟨by omega, by omega⟩ hd ho (by rw [HDL.out]; omega) (by rw [HOL.out]; omega) hops
            rw [he, hLL.p] at hc1
            refine hc1.mono ?_
            rintro e w7 ⟨L7, hL7, rfl, hN7, hO7⟩
            rw [hLL.S] at hO7
            exact ⟨rfl, L7, hLL.trans hL7, hN7, ho', hd.only hO7 (fun y _ => hnb y), ho.only hO7 (fun y _ => hnb y), hB.trans (hO7.below hB.size fun y hy h => by have := hLw y h; omega)⟩
          have h0p : 0 ≤ p := by omega
          by_cases h3 : 3 < p
          · obtain ⟨M', he, ho'⟩ := hord.far p h3 d o
            have HC := Lib.hid (hprog M' 34 n he ho')
            clear hprog he ho' hp hnb
            go_wp2_with fail
            refine HC.out.mono ?_
            rintro e w7 ⟨rfl, L7, hL7, hX⟩
            have HX := Lib.hid hX
            clear hX HC
            go_wp2_with fail
            obtain ⟨a1, a2, a3, a4, a5⟩ := HX.out
            go_roundw
            case rel => exact ⟨k + 1, n, L7, M', by omega, rfl, by go_num, hL7, a1, a2, a3, a4, a5⟩
            case measure => simp [intOf]; omega
          · by_cases hpn : p = n
            · obtain ⟨M', he, ho'⟩ := hord.good p h0p h3 hpn d o HDL.out HOL.out
              have HC := Lib.hid (hprog M' 0 (n + 1) he ho')
              have hpn' : (p == (n : Int)) = true := by simp [hpn]
              clear hprog he ho' hp hnb hpn
              go_wp2_with fail
              refine HC.out.mono ?_
              rintro e w7 ⟨rfl, L7, hL7, hX⟩
              have HX := Lib.hid hX
              clear hX HC
              go_wp2_with fail
              obtain ⟨a1, a2, a3, a4, a5⟩ := HX.out
              go_roundw
              case rel => exact ⟨k + 1, n + 1, L7, M', by omega, by go_num, by go_num, hL7, a1, a2, a3, a4, a5⟩
              case measure => simp [intOf]; omega
            · obtain ⟨M', he, ho'⟩ := hord.wrong p h0p h3 hpn d o HDL.out HOL.out
              have HC := Lib.hid (hprog M' 73 n he ho')
              have hpn' : (p == (n : Int)) = false := by simp [hpn]
              clear hprog he ho' hp hnb hpn
              go_wp2_with fail
              refine HC.out.mono ?_
              rintro e w7 ⟨rfl, L7, hL7, hX⟩
              have HX := Lib.hid hX
              clear hX HC
              go_wp2_with fail
              obtain ⟨a1, a2, a3, a4, a5⟩ := HX.out
              go_roundw
              case rel => exact ⟨k + 1, n, L7, M', by omega, rfl, by go_num, hL7, a1, a2, a3, a4, a5⟩
              case measure => simp [intOf]; omega
      · go_wp2_with fail
        exact HF.out _ hB

set_option maxRecDepth 100000 in
theorem walk {H : Type} (enc : TypeId × Value → H) (W : World) (base : Nat) (v0 : Value) (d0 : DataW H) (p0 : List MemPlace)
    (hv0 : Value.okWide Try.prog W .any base 22 v0) (h0 : DataW.Trod enc Try.prog W 0 (fun _ => true) true 22 v0 d0 p0)
    (_hsz : (DataW.weightsEach Try.prog [22] [d0]).all (· ≤ reachBytes) = true) :
    Calls Try.prog 3 #[v0] W fun e W' => e = .returned (.bool true) ∧ Below W.heap.size W W' := by
  obtain ⟨l, hl, hI⟩ := open_ri64 h0 (okWide_slice Try.underlying22 hv0)
  exact law v0 l W hl hI
end Go.Proofs.Ytphnjiokihbhnaa.lawNandOrders
