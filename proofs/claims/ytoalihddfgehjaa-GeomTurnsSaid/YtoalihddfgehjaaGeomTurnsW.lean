/- GeomTurns: the plain law over the printed functions, and the walk. -/
import Derived.Test.YtoalihddfgehjaaPGeomTurnsx
import Derived.Test.YtoalihddfgehjaaGeo
namespace Go.Proofs.Ytoalihddfgehjaa.lawGeomTurns
open Go.RowKit Go.Proofs.Ytoalihddfgehjaa.PGeomTurns Go.Proofs.YtoalihddfgehjaaW.PrintWords Go.Proofs.YtoalihddfgehjaaW.PrintLast

theorem w64 {x : Int} (h : -9223372036854775808 ≤ x ∧ x ≤ 9223372036854775807) : wrap64 x = x := by unfold wrap64; omega

theorem placed : gabionlaw08_placed.f = some true := by decide +kernel

theorem check_cases (a b c e : Int) : (api_Geo_Check.f a b c e = some 34) ∨ (api_Geo_Check.f a b c e = some 0 ∧ 3 ≤ a ∧ a ≤ 16 ∧ 16 ≤ b ∧ b ≤ 64 ∧ 4 ≤ c ∧ c ≤ 32 ∧ 256 ≤ e ∧ e ≤ 1024) := by
  unfold api_Geo_Check.f
  repeat' (split; exact .inl rfl)
  split
  · exact .inr ⟨rfl, by omega, by omega, by omega, by omega, by omega, by omega, by omega, by omega⟩
  · exact .inl rfl

theorem parity (a b c e s r : Int) (ha0 : 3 ≤ a) (ha1 : a ≤ 16) (hc0 : 4 ≤ c) (hc1 : c ≤ 32) (hs0 : 0 ≤ s) (hs1 : s ≤ 1000) (hr0 : 0 ≤ r) (hr1 : r ≤ 2000) :
    geom_Parity.f a b c e s r = some ((s * c + r) % a) := by
  have h1 : 0 * 0 ≤ s * c := Int.mul_le_mul (by omega) (by omega) (by omega) (by omega)
  have h2 : s * c ≤ 1000 * 32 := Int.mul_le_mul (by omega) (by omega) (by omega) (by omega)
  obtain ⟨S, hS⟩ : ∃ S, S = s * c := ⟨_, rfl⟩
  rw [← hS] at h1 h2
  have hm : mx 1 a = a := by unfold mx; omega
  unfold geom_Parity.f
  rw [hm, if_neg (by omega), ← hS, w64 (x := S) (by omega), w64 (x := S + r) (by omega), Int.tmod_eq_emod_of_nonneg (by omega), if_neg]
  have := Int.emod_nonneg (S + r) (show a ≠ 0 by omega)
  omega

theorem mod_ne {S i j n : Int} (hj0 : 0 ≤ j) (hji : j < i) (hin : i < n) : (S + i) % n ≠ (S + j) % n := by
  intro h
  have hd : n ∣ (S + i) - (S + j) := Int.dvd_of_emod_eq_zero (Int.emod_eq_emod_iff_emod_sub_eq_zero.mp h)
  have := Int.le_of_dvd (by omega) hd
  omega

theorem rd_set_self (xs : List Int) (k : Int) (h : k.toNat < xs.length) : rd (xs.set k.toNat 1) k = 1 := by
  unfold rd; simp [List.getD, h]
theorem rd_set_ne (xs : List Int) (k j : Int) (h : j.toNat ≠ k.toNat) : rd (xs.set k.toNat 1) j = rd xs j := by
  unfold rd; simp [List.getD, List.getElem?_set_ne (Ne.symm h)]

theorem loop (a b c e s r : Int) (ha0 : 3 ≤ a) (ha1 : a ≤ 16) (hc0 : 4 ≤ c) (hc1 : c ≤ 32) (hs0 : 0 ≤ s) (hs1 : s ≤ 1000) (hr0 : 0 ≤ r) (hr1 : r ≤ 1000) (d : Nat) :
    ∀ (k : Nat) (i : Int) (xs : List Int), 0 ≤ i → i ≤ a → a - i = d → d < k → (xs.length : Int) = a →
      (∀ m, 0 ≤ m → m < a → rd xs m > 0 → ∃ j, 0 ≤ j ∧ j < i ∧ m = (s * c + r + j) % a) →
      gabionlaw08_GeomTurns.l0 k s r xs i a b c e = some true := by
  induction d with
  | zero =>
    intro k i xs hi0 hi1 hd hk _ _
    obtain ⟨k, rfl⟩ : ∃ m, k = m + 1 := ⟨k - 1, by omega⟩
    simp only [gabionlaw08_GeomTurns.l0]
    rw [if_neg (by omega), placed]; rfl
  | succ d ih =>
    intro k i xs hi0 hi1 hd hk hlen hinv
    obtain ⟨k, rfl⟩ : ∃ m, k = m + 1 := ⟨k - 1, by omega⟩
    have hp := parity a b c e s (r + i) ha0 ha1 hc0 hc1 hs0 hs1 (by omega) (by omega)
    have e1 : s * c + (r + i) = s * c + r + i := by omega
    rw [e1] at hp
    have m0 := Int.emod_nonneg (s * c + r + i) (show a ≠ 0 by omega)
    have m1 := Int.emod_lt_of_pos (s * c + r + i) (show 0 < a by omega)
    have hno : ¬ rd xs ((s * c + r + i) % a) > 0 := by
      intro h
      obtain ⟨j, hj0, hji, hje⟩ := hinv _ m0 m1 h
      exact mod_ne hj0 hji (by omega) hje
    have hnext := ih k (i + 1) (xs.set ((s * c + r + i) % a).toNat 1) (by omega) (by omega) (by omega) (by omega) (by simpa using hlen) (by
      intro m hm0 hm1 hm
      by_cases he : m.toNat = ((s * c + r + i) % a).toNat
      · exact ⟨i, hi0, by omega, by omega⟩
      · rw [rd_set_ne _ _ _ he] at hm
        obtain ⟨j, hj0, hji, hje⟩ := hinv m hm0 hm1 hm
        exact ⟨j, hj0, by omega, hje⟩)
    simp only [gabionlaw08_GeomTurns.l0]
    rw [if_pos (by omega), w64 (x := r + i) (by omega), hp]
    simp only [Option.bind_some]
    rw [if_neg (by omega), if_neg (by omega), if_pos m0, if_pos (by omega), if_neg hno, w64 (by omega)]
    exact hnext

theorem plain (a b c e s r : Int) : gabionlaw08_GeomTurns.f 20 a b c e s r = some true := by
  have hj : gabionlaw08_GeomTurns.j0 20 s r true a b c e = some true := by
    simp only [gabionlaw08_GeomTurns.j0, if_true, placed, Option.bind_some]
  unfold gabionlaw08_GeomTurns.f
  rcases check_cases a b c e with h | ⟨h, ha0, ha1, hb0, hb1, hc0, hc1, he0, he1⟩
  · rw [h]; simp only [Option.bind_some]; rw [if_neg (by decide)]; exact hj
  · rw [h]; simp only [Option.bind_some, if_true]
    by_cases h1 : s < 0
    · rw [if_pos h1]; exact hj
    rw [if_neg h1]
    by_cases h2 : s > 1000
    · rw [if_pos h2]; exact hj
    rw [if_neg h2]
    by_cases h3 : r < 0
    · rw [if_pos h3]; exact hj
    rw [if_neg h3]
    by_cases h4 : r > 1000
    · rw [decide_eq_true h4]; exact hj
    rw [decide_eq_false h4]
    simp only [gabionlaw08_GeomTurns.j0]
    rw [if_neg (by simp), if_pos (by omega), if_pos (by omega)]
    refine loop a b c e s r ha0 ha1 hc0 hc1 (by omega) (by omega) (by omega) (by omega) a.toNat 19 0 _ (by omega) (by omega) (by omega) (by omega) (by simp; omega) ?_
    intro m hm0 hm1 hm
    exfalso
    have : rd (List.replicate a.toNat 0) m = 0 := by unfold rd; simp only [List.getD, List.getElem?_replicate]; split <;> rfl
    omega

theorem walk {H : Type} (enc : TypeId × Value → H) (W : World) (base : Nat) (v0 : Value) (d0 : DataW H) (p0 : List MemPlace)
    (hv0 : Value.okWide Try.prog W .any base 49 v0) (h0 : DataW.Trod enc Try.prog W 0 (fun _ => true) true 49 v0 d0 p0)
    (v1 : Value) (d1 : DataW H) (p1 : List MemPlace)
    (hv1 : Value.okWide Try.prog W .any base 3 v1) (h1 : DataW.Trod enc Try.prog W 0 (fun _ => true) true 3 v1 d1 p1)
    (v2 : Value) (d2 : DataW H) (p2 : List MemPlace)
    (hv2 : Value.okWide Try.prog W .any base 3 v2) (h2 : DataW.Trod enc Try.prog W 0 (fun _ => true) true 3 v2 d2 p2)
    (_hsz : (DataW.weightsEach Try.prog [49, 3, 3] [d0, d1, d2]).all (· ≤ reachBytes) = true) :
    Calls Try.prog 10 #[v0, v1, v2] W fun e W' => e = .returned (.bool true) ∧ Below W.heap.size W W' := by
  obtain ⟨a, b, c, e, rfl, _, _, _, _⟩ := open_geo hv0 h0
  obtain ⟨s, rfl, _⟩ := open_i64 hv1 h1
  obtain ⟨r, rfl, _⟩ := open_i64 hv2 h2
  exact gabionlaw08_GeomTurns.calls 20 a b c e s r true W (plain a b c e s r)
end Go.Proofs.Ytoalihddfgehjaa.lawGeomTurns
