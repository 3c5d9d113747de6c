/- GeomMembers: the plain law over the printed functions, and the walk. -/
import Derived.Test.YtoalihddfgehjaaPGeomMembersx
import Derived.Test.YtoalihddfgehjaaGeo
namespace Go.Proofs.Ytoalihddfgehjaa.lawGeomMembers
open Go.RowKit Go.Proofs.Ytoalihddfgehjaa.PGeomMembers Go.Proofs.YtoalihddfgehjaaW.PrintWords Go.Proofs.YtoalihddfgehjaaW.PrintLast

theorem w64 {x : Int} (h : -9223372036854775808 ≤ x ∧ x ≤ 9223372036854775807) : wrap64 x = x := by unfold wrap64; omega

theorem placed : gabionlaw08_placed.f = some true := by decide +kernel

theorem check_cases (a b c e : Int) : (api_Geo_Check.f a b c e = some 34) ∨ (api_Geo_Check.f a b c e = some 0 ∧ 3 ≤ a ∧ a ≤ 16 ∧ 16 ≤ b ∧ b ≤ 64 ∧ 4 ≤ c ∧ c ≤ 32 ∧ 256 ≤ e ∧ e ≤ 1024) := by
  unfold api_Geo_Check.f
  repeat' (split; exact .inl rfl)
  split
  · exact .inr ⟨rfl, by omega, by omega, by omega, by omega, by omega, by omega, by omega, by omega⟩
  · exact .inl rfl

theorem parity (a b c e s r : Int) (ha0 : 3 ≤ a) (ha1 : a ≤ 16) (hc0 : 4 ≤ c) (hc1 : c ≤ 32) (hs0 : 0 ≤ s) (hs1 : s ≤ 1000) (hr0 : 0 ≤ r) (hr1 : r ≤ 2000) :
    geom_Parity.f a b c e s r = some ((s * c + r) % a) := by
  have h1 : 0 * 0 ≤ s * c := Int.mul_le_mul (by omega) (by omega) (by omega) (by omega)
  have h2 : s * c ≤ 1000 * 32 := Int.mul_le_mul (by omega) (by omega) (by omega) (by omega)
  obtain ⟨S, hS⟩ : ∃ S, S = s * c := ⟨_, rfl⟩
  rw [← hS] at h1 h2
  have hm : mx 1 a = a := by unfold mx; omega
  unfold geom_Parity.f
  rw [hm, if_neg (by omega), ← hS, w64 (x := S) (by omega), w64 (x := S + r) (by omega), Int.tmod_eq_emod_of_nonneg (by omega), if_neg]
  have := Int.emod_nonneg (S + r) (show a ≠ 0 by omega)
  omega

/-- the parity's member -/
abbrev P (a c s r : Int) : Int := (s * c + r) % a

theorem slot (a b c e s r m : Int) (ha0 : 3 ≤ a) (ha1 : a ≤ 16) (hc0 : 4 ≤ c) (hc1 : c ≤ 32) (hs0 : 0 ≤ s) (hs1 : s ≤ 1000) (hr0 : 0 ≤ r) (hr1 : r ≤ 1000) (hm0 : 0 ≤ m) (hm1 : m < a) :
    geom_Slot.f a b c e s r m = some (if m = P a c s r then (0, false) else if m > P a c s r then (m - 1, true) else (m, true)) := by
  unfold geom_Slot.f
  rw [parity a b c e s r ha0 ha1 hc0 hc1 hs0 hs1 hr0 (by omega)]
  simp only [Option.bind_some]
  rw [w64 (x := m - 1) (by omega)]
  split
  · rfl
  · split <;> rfl

theorem member (a b c e s r k : Int) (ha0 : 3 ≤ a) (ha1 : a ≤ 16) (hc0 : 4 ≤ c) (hc1 : c ≤ 32) (hs0 : 0 ≤ s) (hs1 : s ≤ 1000) (hr0 : 0 ≤ r) (hr1 : r ≤ 1000) (hm0 : 0 ≤ k) (hm1 : k < a) :
    geom_Member.f a b c e s r k = some (if k ≥ P a c s r then k + 1 else k) := by
  unfold geom_Member.f
  rw [parity a b c e s r ha0 ha1 hc0 hc1 hs0 hs1 hr0 (by omega)]
  simp only [Option.bind_some]
  rw [w64 (x := k + 1) (by omega)]
  split <;> rfl

theorem rd_set_self (xs : List Int) (k : Int) (h : k.toNat < xs.length) : rd (xs.set k.toNat 1) k = 1 := by
  unfold rd; simp [List.getD, h]
theorem rd_set_ne (xs : List Int) (k j : Int) (h : j.toNat ≠ k.toNat) : rd (xs.set k.toNat 1) j = rd xs j := by
  unfold rd; simp [List.getD, List.getElem?_set_ne (Ne.symm h)]


/-- slots seen ahead of member m are those below it -/
theorem loop (a b c e s r : Int) (ha0 : 3 ≤ a) (ha1 : a ≤ 16) (hc0 : 4 ≤ c) (hc1 : c ≤ 32) (hs0 : 0 ≤ s) (hs1 : s ≤ 1000) (hr0 : 0 ≤ r) (hr1 : r ≤ 1000) (d : Nat) :
    ∀ (k : Nat) (m n : Int) (xs : List Int), 0 ≤ m → m ≤ a → a - m = d → 2 * d < k → (xs.length : Int) = a → n = (if m > P a c s r then m - 1 else m) →
      (∀ j, 0 ≤ j → j < a → rd xs j > 0 → j < n) →
      gabionlaw08_GeomMembers.l0 k s r xs n m a b c e = some true := by
  have p0 : 0 ≤ P a c s r := Int.emod_nonneg (s * c + r) (show a ≠ 0 by omega)
  have p1 : P a c s r < a := Int.emod_lt_of_pos (s * c + r) (show 0 < a by omega)
  induction d with
  | zero =>
    intro k m n xs hi0 hi1 hd hk _ hn _
    obtain ⟨k, rfl⟩ : ∃ m, k = m + 1 := ⟨k - 1, by omega⟩
    simp only [gabionlaw08_GeomMembers.l0]
    rw [if_neg (by omega), placed]
    rw [if_pos (by omega)] at hn
    simp only [Option.bind_some, if_true]
    rw [w64 (by omega)]
    congr 1
    exact beq_iff_eq.mpr (by omega)
  | succ d ih =>
    intro k m n xs hi0 hi1 hd hk hlen hn hinv
    obtain ⟨k, rfl⟩ : ∃ m, k = m + 2 := ⟨k - 2, by omega⟩
    have hsl := slot a b c e s r m ha0 ha1 hc0 hc1 hs0 hs1 hr0 hr1 hi0 (by omega)
    simp only [gabionlaw08_GeomMembers.l0]
    rw [if_pos (by omega), hsl]
    simp only [Option.bind_some]
    by_cases hmp : m = P a c s r
    · rw [if_pos hmp]
      simp only [Bool.false_eq_true, if_false, if_true]
      have hpar := parity a b c e s r ha0 ha1 hc0 hc1 hs0 hs1 hr0 (by omega)
      rw [hpar]
      simp only [Option.bind_some, gabionlaw08_GeomMembers.j2]
      rw [if_neg (by simp [hmp]), w64 (by omega)]
      refine ih k (m + 1) n xs (by omega) (by omega) (by omega) (by omega) hlen ?_ hinv
      rw [if_pos (by omega)]
      rw [if_neg (by omega)] at hn
      omega
    · rw [if_neg hmp]
      have hsn : (if m > P a c s r then ((m - 1, true) : Int × Bool) else (m, true)) = (n, true) := by
        rw [hn]; split <;> rfl
      rw [hsn]
      simp only [if_true]
      have hn0 : 0 ≤ n ∧ n < a ∧ n ≤ m := by rw [hn]; split <;> omega
      have hmem := member a b c e s r n ha0 ha1 hc0 hc1 hs0 hs1 hr0 hr1 hn0.1 hn0.2.1
      have hback : (if n ≥ P a c s r then n + 1 else n) = m := by
        by_cases hg : m > P a c s r
        · rw [if_pos hg] at hn; rw [if_pos (by omega)]; omega
        · rw [if_neg hg] at hn; rw [if_neg (by omega)]; omega
      rw [hback] at hmem
      have hno : ¬ rd xs n > 0 := fun h => by have := hinv n hn0.1 hn0.2.1 h; omega
      rw [if_neg (by omega), if_neg (by omega), if_pos hn0.1, if_pos (by omega), if_neg hno, hmem]
      simp only [Option.bind_some, if_true]
      rw [w64 (x := n + 1) (by omega), w64 (x := m + 1) (by omega)]
      refine ih (k + 1) (m + 1) (n + 1) _ (by omega) (by omega) (by omega) (by omega) (by simpa using hlen) ?_ ?_
      · by_cases hg : m > P a c s r
        · rw [if_pos hg] at hn; rw [if_pos (by omega)]; omega
        · rw [if_neg hg] at hn; rw [if_neg (by omega)]; omega
      · intro j hj0 hj1 hj
        by_cases he : j.toNat = n.toNat
        · omega
        · rw [rd_set_ne _ _ _ he] at hj
          have := hinv j hj0 hj1 hj
          omega

theorem plain (a b c e s r : Int) : gabionlaw08_GeomMembers.f 40 a b c e s r = some true := by
  have hj : gabionlaw08_GeomMembers.j0 40 s r true a b c e = some true := by
    simp only [gabionlaw08_GeomMembers.j0, if_true, placed, Option.bind_some]
  unfold gabionlaw08_GeomMembers.f
  rcases check_cases a b c e with h | ⟨h, ha0, ha1, hb0, hb1, hc0, hc1, he0, he1⟩
  · rw [h]; simp only [Option.bind_some]; rw [if_neg (by decide)]; exact hj
  · rw [h]; simp only [Option.bind_some, if_true]
    by_cases h1 : s < 0
    · rw [if_pos h1]; exact hj
    rw [if_neg h1]
    by_cases h2 : s > 1000
    · rw [if_pos h2]; exact hj
    rw [if_neg h2]
    by_cases h3 : r < 0
    · rw [if_pos h3]; exact hj
    rw [if_neg h3]
    by_cases h4 : r > 1000
    · rw [decide_eq_true h4]; exact hj
    rw [decide_eq_false h4]
    simp only [gabionlaw08_GeomMembers.j0]
    rw [if_neg (by simp), if_pos (by omega), if_pos (by omega)]
    have p0 : 0 ≤ P a c s r := Int.emod_nonneg (s * c + r) (show a ≠ 0 by omega)
    refine loop a b c e s r ha0 ha1 hc0 hc1 (by omega) (by omega) (by omega) (by omega) a.toNat 39 0 0 _ (by omega) (by omega) (by omega) (by omega) (by simp; omega) ?_ ?_
    · rw [if_neg (by omega)]
    intro m hm0 hm1 hm
    exfalso
    have : rd (List.replicate a.toNat 0) m = 0 := by unfold rd; simp only [List.getD, List.getElem?_replicate]; split <;> rfl
    omega

theorem walk {H : Type} (enc : TypeId × Value → H) (W : World) (base : Nat) (v0 : Value) (d0 : DataW H) (p0 : List MemPlace)
    (hv0 : Value.okWide Try.prog W .any base 49 v0) (h0 : DataW.Trod enc Try.prog W 0 (fun _ => true) true 49 v0 d0 p0)
    (v1 : Value) (d1 : DataW H) (p1 : List MemPlace)
    (hv1 : Value.okWide Try.prog W .any base 3 v1) (h1 : DataW.Trod enc Try.prog W 0 (fun _ => true) true 3 v1 d1 p1)
    (v2 : Value) (d2 : DataW H) (p2 : List MemPlace)
    (hv2 : Value.okWide Try.prog W .any base 3 v2) (h2 : DataW.Trod enc Try.prog W 0 (fun _ => true) true 3 v2 d2 p2)
    (_hsz : (DataW.weightsEach Try.prog [49, 3, 3] [d0, d1, d2]).all (· ≤ reachBytes) = true) :
    Calls Try.prog 11 #[v0, v1, v2] W fun e W' => e = .returned (.bool true) ∧ Below W.heap.size W W' := by
  obtain ⟨a, b, c, e, rfl, _, _, _, _⟩ := open_geo hv0 h0
  obtain ⟨s, rfl, _⟩ := open_i64 hv1 h1
  obtain ⟨r, rfl, _⟩ := open_i64 hv2 h2
  exact gabionlaw08_GeomMembers.calls 40 a b c e s r true W (plain a b c e s r)
end Go.Proofs.Ytoalihddfgehjaa.lawGeomMembers
