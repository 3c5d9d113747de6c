/- GeomNexts: the walk. -/
--only r1
import Derived.Test.YtoalihddfgehjaaAt
import Derived.Test.YtoalihddfgehjaaOpens
import Derived.Test.YtoalihddfgehjaaOnly
namespace Go.Proofs.Ytoalihddfgehjaa.lawGeomNexts
set_option linter.unusedVariables false
set_option linter.unusedSimpArgs false
open Go.RowKit Go.Proofs.Ytoalihddfgehjaa.PGeomStripes Go.Proofs.Ytoalihddfgehjaa.AtW Go.ChangeShapes Go.WideShapes

theorem placed_calls (w : World) : Calls Try.prog 31 #[] w fun e w' => e = .returned (.bool true) ∧ Below w.heap.size w w' :=
  gabionlaw08_placed.calls true w (by decide +kernel)

theorem next_place (V c K : Nat) (hV : 2 ≤ V) (hc : 4 ≤ c) :
    (K % V + 1 < V ∧ (K + 1) / V / c = K / V / c ∧ (K + 1) / V % c = K / V % c ∧ (K + 1) % V = K % V + 1) ∨
    (K % V + 1 = V ∧ (K + 1) % V = 0 ∧ K / V % c + 1 < c ∧ (K + 1) / V / c = K / V / c ∧ (K + 1) / V % c = K / V % c + 1) ∨
    (K % V + 1 = V ∧ (K + 1) % V = 0 ∧ K / V % c + 1 = c ∧ (K + 1) / V / c = K / V / c + 1 ∧ (K + 1) / V % c = 0) := by
  have step : ∀ (D m : Nat), 1 < D → (m % D + 1 < D ∧ (m + 1) / D = m / D ∧ (m + 1) % D = m % D + 1) ∨ (m % D + 1 = D ∧ (m + 1) / D = m / D + 1 ∧ (m + 1) % D = 0) := by
    intro D m hD
    have h1 := Nat.div_add_mod m D
    have h2 := Nat.mod_lt m (show 0 < D by omega)
    rcases Nat.lt_or_ge (m % D + 1) D with h | h
    · left
      have e : m + 1 = D * (m / D) + (m % D + 1) := by omega
      refine ⟨h, ?_, ?_⟩
      · conv => lhs; rw [e]
        rw [Nat.mul_add_div (by omega), Nat.div_eq_of_lt h]; rfl
      · conv => lhs; rw [e]
        rw [Nat.mul_add_mod, Nat.mod_eq_of_lt h]
    · right
      have e : m + 1 = D * (m / D + 1) + 0 := by rw [Nat.mul_add]; omega
      refine ⟨by omega, ?_, ?_⟩
      · conv => lhs; rw [e]
        rw [Nat.mul_add_div (by omega)]; simp
      · conv => lhs; rw [e]
        rw [Nat.mul_add_mod]; simp
  rcases step V K (by omega) with ⟨h1, h2, h3⟩ | ⟨h1, h2, h3⟩
  · exact .inl ⟨h1, by rw [h2], by rw [h2], h3⟩
  · rcases step c (K / V) (by omega) with ⟨g1, g2, g3⟩ | ⟨g1, g2, g3⟩
    · exact .inr (.inl ⟨h1, h3, g1, by rw [h2, g2], by rw [h2, g3]⟩)
    · exact .inr (.inr ⟨h1, h3, g1, by rw [h2, g2], by rw [h2, g3]⟩)

set_option maxHeartbeats 4000000 in
theorem law (a b c e n : Int) (w : World) (hn0 : 0 ≤ n) (hn1 : n ≤ 4294967295) :
    Calls Try.prog 12 #[gV a b c e, .int .u32 n] w fun r w' => r = .returned (.bool true) ∧ Below w.heap.size w w' := by
  obtain ⟨z, hz, hzn⟩ : ∃ z, api_Geo_Check.f a b c e = some z ∧ (z = 34 ∨ z = 0) := by
    rcases geo_two a b c e with h | h
    · exact ⟨0, h, .inr rfl⟩
    · exact ⟨34, h, .inl rfl⟩
  by_cases hbad : z = 34 ∨ n = 0 ∨ 1000000 < n
  · by_cases h1 : z = 34
    all_goals by_cases h2 : n = 0
    all_goals by_cases h3 : 1000000 < n
    all_goals first
      | (exfalso; omega)
      | (have h4 : z = 34 ∨ z = 0 := hzn
         have h2b : (n == 0) = decide (n = 0) := by by_cases h : n = 0 <;> simp [h]
         go_enter Try.func12, Try.ntmps12
         go_wp2_with fail
         refine (api_Geo_Check.calls a b c e z _ hz).mono ?_
         rintro e1 w1 ⟨rfl, hb1⟩
         have hbel : Below w.heap.size w w1 := ((Below.refl w.heap.size w).alloc (Nat.le_refl _) _).trans (hb1.mono (by simp))
         clear hb1
         rcases h4 with rfl | rfl
         all_goals first
           | (exfalso; omega)
           | (go_wp2_with fail
              refine (placed_calls _).mono ?_
              rintro e2 w2 ⟨rfl, hb2⟩
              go_wp2_with fail
              go_ret
              exact ⟨rfl, hbel.trans (hb2.mono hbel.size)⟩))
  · obtain rfl : z = 0 := by omega
    obtain ⟨ha0, ha1, hb0, hb1, hc0, hc1⟩ := geo_ok hz
    obtain ⟨V, rfl⟩ : ∃ V : Nat, a = (V : Int) + 1 := ⟨(a - 1).toNat, by omega⟩
    obtain ⟨c, rfl⟩ : ∃ m : Nat, c = m := ⟨c.toNat, by omega⟩
    obtain ⟨K, hKn⟩ : ∃ K : Nat, n = (K : Int) + 1 := ⟨(n - 1).toNat, by omega⟩
    have A1 := fun w => at_yes V c K b e w hz (by omega)
    have A2 := fun w => at_yes V c (K + 1) b e w hz (by omega)
    rw [show (((K + 1 : Nat) : Int) + 1) = n + 1 by omega] at A2
    rw [← hKn] at A1
    have hnx := next_place V c K (by omega) (by omega)
    have hyc : K / V % c < c := Nat.mod_lt _ (by omega)
    have hqv : K % V < V := Nat.mod_lt _ (by omega)
    have hxk : K / V / c ≤ 1000000 := Nat.le_trans (Nat.div_le_self _ _) (Nat.le_trans (Nat.div_le_self _ _) (by omega))
    generalize K / V / c = x at A1 hnx hxk
    generalize K / V % c = y at A1 hnx hyc
    generalize K % V = q at A1 hnx hqv
    generalize (K + 1) / V / c = x' at A2 hnx
    generalize (K + 1) / V % c = y' at A2 hnx
    generalize (K + 1) % V = q' at A2 hnx
    have hn2 : (n == 0) = false := by rw [beq_eq_false_iff_ne]; omega
    have hn3 : ¬ 1000000 < n := by omega
    have hn5 : n ≤ 1000000 := by omega
    have NX := Lib.hid hnx
    clear hnx hbad hzn hKn
    go_enter Try.func12, Try.ntmps12
    go_wp2_with fail
    refine (api_Geo_Check.calls _ b c e 0 _ hz).mono ?_
    rintro e1 w1 ⟨rfl, hb1⟩
    have hG : w1.heap[w.heap.size]? = some (.cells #[.int .i64 ((V : Int) + 1), .int .i64 b, .int .i64 (c : Int), .int .i64 e] 49 (0, 0)) := heap_keep hb1 (heap_is rfl)
    have hbel : Below w.heap.size w w1 := ((Below.refl w.heap.size w).alloc (Nat.le_refl _) _).trans (hb1.mono (by simp))
    clear hb1
    have k0 := cells_at hG 0 _ rfl
    have k1 := cells_at hG 1 _ rfl
    have k2 := cells_at hG 2 _ rfl
    have k3 := cells_at hG 3 _ rfl
    go_wp2_with fail
    refine (A1 _).mono ?_
    rintro e2 w2 ⟨rfl, hb2⟩
    have hG2 := heap_keep hb2 hG
    have hbel2 := hbel.trans (hb2.mono hbel.size)
    clear hb2 hG hbel k0 k1 k2 k3
    have k0 := cells_at hG2 0 _ rfl
    have k1 := cells_at hG2 1 _ rfl
    have k2 := cells_at hG2 2 _ rfl
    have k3 := cells_at hG2 3 _ rfl
    have hl2 := heap_lt hG2
    go_wp2_with fail
    refine (A2 _).mono ?_
    rintro e3 w3 ⟨rfl, hb3⟩
    have hP3 : w3.heap[w2.heap.size]? = some (.cells #[.int .i64 (x : Int), .int .i64 (y : Int), .int .i64 (q : Int)] 58 (0, 0)) := heap_keep hb3 (heap_is rfl)
    have hG3 := heap_keep hb3 (heap_old _ hG2)
    have hbel3 := (hbel2.alloc hbel2.size (.cells #[.int .i64 (x : Int), .int .i64 (y : Int), .int .i64 (q : Int)] 58)).trans (hb3.mono (by simp; have := hbel2.size; omega))
    have hlw := hbel2.size
    clear hb3 hG2 hbel2 k0 k1 k2 k3 A1 A2
    by_cases hx : (x : Int) < b - 5
    · by_cases hx' : (x' : Int) < b - 5
      · have hxb : decide ((x : Int) < b - 5) = true := decide_eq_true hx
        have hxb' : decide ((x' : Int) < b - 5) = true := decide_eq_true hx'
        rw [hxb, hxb']
        clear hx hx' hxb hxb'
        go_wp2_with fail
        refine (placed_calls _).mono ?_
        rintro e4 w4 ⟨rfl, hb4⟩
        have hQ4 : w4.heap[w3.heap.size]? = some (.cells #[.int .i64 (x' : Int), .int .i64 (y' : Int), .int .i64 (q' : Int)] 58 (0, 0)) := heap_keep hb4 (heap_is rfl)
        have hP4 := heap_keep hb4 (heap_old _ hP3)
        have hG4 := heap_keep hb4 (heap_old _ hG3)
        have hbel4 := (hbel3.alloc hbel3.size (.cells #[.int .i64 (x' : Int), .int .i64 (y' : Int), .int .i64 (q' : Int)] 58)).trans (hb4.mono (by simp; have := hbel3.size; omega))
        have hne : w2.heap.size < w3.heap.size := heap_lt hP3
        clear hb4 hP3 hG3 hbel3
        have hnx := NX.out
        have hlG := heap_lt hG4
        have k0 := cells_at hG4 0 _ rfl
        have k2 := cells_at hG4 2 _ rfl
        have p0 := cells_at hP4 0 _ rfl
        have p1 := cells_at hP4 1 _ rfl
        have p2 := cells_at hP4 2 _ rfl
        have f0 := froz_at hP4 0
        have f1 := froz_at hP4 1
        have f2 := froz_at hP4 2
        have q0 := cells_at hQ4 0 _ rfl
        have q1 := cells_at hQ4 1 _ rfl
        have q2 := cells_at hQ4 2 _ rfl
        obtain ⟨bp, hbp⟩ : ∃ bp, bp = w2.heap.size := ⟨_, rfl⟩
        obtain ⟨bq, hbq⟩ : ∃ bq, bq = w3.heap.size := ⟨_, rfl⟩
        obtain ⟨bg, hbg⟩ : ∃ bg, bg = w.heap.size := ⟨_, rfl⟩
        rw [← hbp, ← hbg] at hlw
        rw [← hbp, ← hbq] at hne
        rw [← hbg] at hl2
        rw [← hbp] at hP4 p0 p1 p2 f0 f1 f2 hl2
        rw [← hbq] at hQ4 q0 q1 q2
        rw [← hbg] at hG4 k0 k2 hbel4 hlG ⊢
        rw [← hbp, ← hbq]
        have HBG := Lib.hid hbg
        clear hz hbp hbq hbg
        rcases hnx with ⟨h1, rfl, rfl, rfl⟩ | ⟨h1, rfl, h2, rfl, rfl⟩ | ⟨h1, rfl, h2, rfl, rfl⟩
        · have e1 : ((q : Int) + 1 == (V : Int)) = false := by rw [beq_eq_false_iff_ne]; omega
          have e2 : ((y' : Int) == (c : Int)) = false := by rw [beq_eq_false_iff_ne]; omega
          clear h1
          go_wp2_with ((refine wpList_set hP4 ?_; clear p0 p1 p2 f0 f1 f2; intro wn hPn hsn hOn; replace hbel4 := hbel4.trans (hOn.below (Nat.le_of_lt (heap_lt hG4)) (fun b hb => by show ¬ b = bp; omega)); replace hG4 := hOn.at hG4 (by show ¬ bg = bp; omega); replace hQ4 := hOn.at hQ4 (by show ¬ bq = bp; omega); clear hP4 hOn; (try simp only [List.setIfInBounds_toArray, List.set_cons_zero, List.set_cons_succ] at hPn); have hP4 := hPn; clear hPn; have k0 := cells_at hG4 0 _ rfl; have k2 := cells_at hG4 2 _ rfl; have p0 := cells_at hP4 0 _ rfl; have p1 := cells_at hP4 1 _ rfl; have p2 := cells_at hP4 2 _ rfl; have f0 := froz_at hP4 0; have f1 := froz_at hP4 1; have f2 := froz_at hP4 2; have q0 := cells_at hQ4 0 _ rfl; have q1 := cells_at hQ4 1 _ rfl; have q2 := cells_at hQ4 2 _ rfl))
          go_ret
          exact ⟨rfl, HBG.out ▸ hbel4⟩
        · have e1 : ((q : Int) + 1 == (V : Int)) = true := by rw [beq_iff_eq]; omega
          have e2 : ((y : Int) + 1 == (c : Int)) = false := by rw [beq_eq_false_iff_ne]; omega
          clear h1 h2
          go_wp2_with ((refine wpList_set hP4 ?_; clear p0 p1 p2 f0 f1 f2; intro wn hPn hsn hOn; replace hbel4 := hbel4.trans (hOn.below (Nat.le_of_lt (heap_lt hG4)) (fun b hb => by show ¬ b = bp; omega)); replace hG4 := hOn.at hG4 (by show ¬ bg = bp; omega); replace hQ4 := hOn.at hQ4 (by show ¬ bq = bp; omega); clear hP4 hOn; (try simp only [List.setIfInBounds_toArray, List.set_cons_zero, List.set_cons_succ] at hPn); have hP4 := hPn; clear hPn; have k0 := cells_at hG4 0 _ rfl; have k2 := cells_at hG4 2 _ rfl; have p0 := cells_at hP4 0 _ rfl; have p1 := cells_at hP4 1 _ rfl; have p2 := cells_at hP4 2 _ rfl; have f0 := froz_at hP4 0; have f1 := froz_at hP4 1; have f2 := froz_at hP4 2; have q0 := cells_at hQ4 0 _ rfl; have q1 := cells_at hQ4 1 _ rfl; have q2 := cells_at hQ4 2 _ rfl))
          go_ret
          exact ⟨rfl, HBG.out ▸ hbel4⟩
        · have e1 : ((q : Int) + 1 == (V : Int)) = true := by rw [beq_iff_eq]; omega
          have e2 : ((y : Int) + 1 == (c : Int)) = true := by rw [beq_iff_eq]; omega
          clear h1 h2
          go_wp2_with ((refine wpList_set hP4 ?_; clear p0 p1 p2 f0 f1 f2; intro wn hPn hsn hOn; replace hbel4 := hbel4.trans (hOn.below (Nat.le_of_lt (heap_lt hG4)) (fun b hb => by show ¬ b = bp; omega)); replace hG4 := hOn.at hG4 (by show ¬ bg = bp; omega); replace hQ4 := hOn.at hQ4 (by show ¬ bq = bp; omega); clear hP4 hOn; (try simp only [List.setIfInBounds_toArray, List.set_cons_zero, List.set_cons_succ] at hPn); have hP4 := hPn; clear hPn; have k0 := cells_at hG4 0 _ rfl; have k2 := cells_at hG4 2 _ rfl; have p0 := cells_at hP4 0 _ rfl; have p1 := cells_at hP4 1 _ rfl; have p2 := cells_at hP4 2 _ rfl; have f0 := froz_at hP4 0; have f1 := froz_at hP4 1; have f2 := froz_at hP4 2; have q0 := cells_at hQ4 0 _ rfl; have q1 := cells_at hQ4 1 _ rfl; have q2 := cells_at hQ4 2 _ rfl))
          go_ret
          exact ⟨rfl, HBG.out ▸ hbel4⟩
      · have hxb : decide ((x : Int) < b - 5) = true := decide_eq_true hx
        have hxb' : decide ((x' : Int) < b - 5) = false := decide_eq_false hx'
        rw [hxb, hxb']
        clear hx hx' hxb hxb'
        go_wp2_with fail
        refine (placed_calls _).mono ?_
        rintro e4 w4 ⟨rfl, hb4⟩
        have hbel4 := (hbel3.alloc hbel3.size (.cells #[.int .i64 (x' : Int), .int .i64 (y' : Int), .int .i64 (q' : Int)] 58)).trans (hb4.mono (by simp; have := hbel3.size; omega))
        go_wp2_with fail
        refine (placed_calls _).mono ?_
        rintro e5 w5 ⟨rfl, hb5⟩
        go_wp2_with fail
        go_ret
        exact ⟨rfl, hbel4.trans (hb5.mono hbel4.size)⟩
    · have hx' : ¬ (x' : Int) < b - 5 := by
        rcases NX.out with ⟨_, h, _⟩ | ⟨_, _, _, h, _⟩ | ⟨_, _, _, h, _⟩ <;> omega
      have hxb : decide ((x : Int) < b - 5) = false := decide_eq_false hx
      have hxb' : decide ((x' : Int) < b - 5) = false := decide_eq_false hx'
      rw [hxb, hxb']
      clear hx hx' hxb hxb'
      go_wp2_with fail
      refine (placed_calls _).mono ?_
      rintro e4 w4 ⟨rfl, hb4⟩
      have hbel4 := (hbel3.alloc hbel3.size (.cells #[.int .i64 (x' : Int), .int .i64 (y' : Int), .int .i64 (q' : Int)] 58)).trans (hb4.mono (by simp; have := hbel3.size; omega))
      go_wp2_with fail
      refine (placed_calls _).mono ?_
      rintro e5 w5 ⟨rfl, hb5⟩
      go_wp2_with fail
      go_ret
      exact ⟨rfl, hbel4.trans (hb5.mono hbel4.size)⟩

theorem walk {H : Type} (enc : TypeId × Value → H) (W : World) (base : Nat) (v0 : Value) (d0 : DataW H) (p0 : List MemPlace)
    (hv0 : Value.okWide Try.prog W .any base 49 v0) (h0 : DataW.Trod enc Try.prog W 0 (fun _ => true) true 49 v0 d0 p0)
    (v1 : Value) (d1 : DataW H) (p1 : List MemPlace)
    (hv1 : Value.okWide Try.prog W .any base 24 v1) (h1 : DataW.Trod enc Try.prog W 0 (fun _ => true) true 24 v1 d1 p1)
    (_hsz : (DataW.weightsEach Try.prog [49, 24] [d0, d1]).all (· ≤ reachBytes) = true) :
    Calls Try.prog 12 #[v0, v1] W fun e W' => e = .returned (.bool true) ∧ Below W.heap.size W W' := by
  obtain ⟨a, b, c, d, rfl, _⟩ := opens_geo hv0 h0
  obtain ⟨z, rfl, _, _, wz⟩ := open_int Try.underlying24 hv1 h1
  have hz := lit_u32 wz
  exact law a b c d z W hz.1 hz.2
end Go.Proofs.Ytoalihddfgehjaa.lawGeomNexts
