/- GeomStripes: the plain law over the printed functions, and the walk. -/
import Derived.Test.YtoalihddfgehjaaPGeomStripesx
import Derived.Test.YtoalihddfgehjaaGeo
namespace Go.Proofs.Ytoalihddfgehjaa.lawGeomStripes
open Go.RowKit Go.Proofs.Ytoalihddfgehjaa.PGeomStripes Go.Proofs.YtoalihddfgehjaaW.PrintWords Go.Proofs.YtoalihddfgehjaaW.PrintLast

theorem w64 {x : Int} (h : -9223372036854775808 ≤ x ∧ x ≤ 9223372036854775807) : wrap64 x = x := by unfold wrap64; omega

theorem placed : gabionlaw08_placed.f = some true := by decide +kernel

theorem check_cases (a b c e : Int) : (api_Geo_Check.f a b c e = some 34) ∨ (api_Geo_Check.f a b c e = some 0 ∧ 3 ≤ a ∧ a ≤ 16 ∧ 16 ≤ b ∧ b ≤ 64 ∧ 4 ≤ c ∧ c ≤ 32 ∧ 256 ≤ e ∧ e ≤ 1024) := by
  unfold api_Geo_Check.f
  repeat' (split; exact .inl rfl)
  split
  · exact .inr ⟨rfl, by omega, by omega, by omega, by omega, by omega, by omega, by omega, by omega⟩
  · exact .inl rfl

theorem parity (a b c e s r : Int) (ha0 : 3 ≤ a) (ha1 : a ≤ 16) (hc0 : 4 ≤ c) (hc1 : c ≤ 32) (hs0 : 0 ≤ s) (hs1 : s ≤ 1000) (hr0 : 0 ≤ r) (hr1 : r ≤ 2000) :
    geom_Parity.f a b c e s r = some ((s * c + r) % a) := by
  have h1 : 0 * 0 ≤ s * c := Int.mul_le_mul (by omega) (by omega) (by omega) (by omega)
  have h2 : s * c ≤ 1000 * 32 := Int.mul_le_mul (by omega) (by omega) (by omega) (by omega)
  obtain ⟨S, hS⟩ : ∃ S, S = s * c := ⟨_, rfl⟩
  rw [← hS] at h1 h2
  have hm : mx 1 a = a := by unfold mx; omega
  unfold geom_Parity.f
  rw [hm, if_neg (by omega), ← hS, w64 (x := S) (by omega), w64 (x := S + r) (by omega), Int.tmod_eq_emod_of_nonneg (by omega), if_neg]
  have := Int.emod_nonneg (S + r) (show a ≠ 0 by omega)
  omega

/-- the parity's member -/
abbrev P (a c s r : Int) : Int := (s * c + r) % a

theorem slot (a b c e s r m : Int) (ha0 : 3 ≤ a) (ha1 : a ≤ 16) (hc0 : 4 ≤ c) (hc1 : c ≤ 32) (hs0 : 0 ≤ s) (hs1 : s ≤ 1000) (hr0 : 0 ≤ r) (hr1 : r ≤ 1000) (hm0 : 0 ≤ m) (hm1 : m < a) :
    geom_Slot.f a b c e s r m = some (if m = P a c s r then (0, false) else if m > P a c s r then (m - 1, true) else (m, true)) := by
  unfold geom_Slot.f
  rw [parity a b c e s r ha0 ha1 hc0 hc1 hs0 hs1 hr0 (by omega)]
  simp only [Option.bind_some]
  rw [w64 (x := m - 1) (by omega)]
  split
  · rfl
  · split <;> rfl

theorem member (a b c e s r k : Int) (ha0 : 3 ≤ a) (ha1 : a ≤ 16) (hc0 : 4 ≤ c) (hc1 : c ≤ 32) (hs0 : 0 ≤ s) (hs1 : s ≤ 1000) (hr0 : 0 ≤ r) (hr1 : r ≤ 1000) (hm0 : 0 ≤ k) (hm1 : k < a) :
    geom_Member.f a b c e s r k = some (if k ≥ P a c s r then k + 1 else k) := by
  unfold geom_Member.f
  rw [parity a b c e s r ha0 ha1 hc0 hc1 hs0 hs1 hr0 (by omega)]
  simp only [Option.bind_some]
  rw [w64 (x := k + 1) (by omega)]
  split <;> rfl


theorem rparity (a b c e s r : Int) (ha0 : 3 ≤ a) (ha1 : a ≤ 16) (hc0 : 4 ≤ c) (hc1 : c ≤ 32) (hs0 : 0 ≤ s) (hs1 : s ≤ 1000) (hr0 : 0 ≤ r) (hr1 : r ≤ 2000) :
    gabionref08_Parity.f a b c e s r = some ((s * c + r) % a) := by
  have h1 : 0 * 0 ≤ s * c := Int.mul_le_mul (by omega) (by omega) (by omega) (by omega)
  have h2 : s * c ≤ 1000 * 32 := Int.mul_le_mul (by omega) (by omega) (by omega) (by omega)
  obtain ⟨S, hS⟩ : ∃ S, S = s * c := ⟨_, rfl⟩
  rw [← hS] at h1 h2
  unfold gabionref08_Parity.f
  rw [if_neg (by omega), ← hS, w64 (x := S) (by omega), w64 (x := S + r) (by omega), Int.tmod_eq_emod_of_nonneg (by omega)]

/-- the members but the parity's, from m on -/
def rest (p a : Int) : Nat → Int → List Int
  | 0, _ => []
  | d + 1, m => if m = p then rest p a d (m + 1) else m :: rest p a d (m + 1)

theorem members (a b c e s r : Int) (ha0 : 3 ≤ a) (ha1 : a ≤ 16) (hc0 : 4 ≤ c) (hc1 : c ≤ 32) (hs0 : 0 ≤ s) (hs1 : s ≤ 1000) (hr0 : 0 ≤ r) (hr1 : r ≤ 1000) (d : Nat) :
    ∀ (k : Nat) (m : Int) (xs : List Int), 0 ≤ m → m ≤ a → a - m = d → d < k → (xs.length : Int) ≤ m →
      gabionref08_Members.l0 k s r xs m a b c e = some (xs ++ rest (P a c s r) a d m) := by
  induction d with
  | zero =>
    intro k m xs h0 h1 hd hk _
    obtain ⟨k, rfl⟩ : ∃ m, k = m + 1 := ⟨k - 1, by omega⟩
    simp only [gabionref08_Members.l0, rest, List.append_nil]
    rw [if_neg (by omega)]
  | succ d ih =>
    intro k m xs h0 h1 hd hk hl
    obtain ⟨k, rfl⟩ : ∃ m, k = m + 1 := ⟨k - 1, by omega⟩
    simp only [gabionref08_Members.l0, rest]
    rw [if_pos (by omega), rparity a b c e s r ha0 ha1 hc0 hc1 hs0 hs1 hr0 (by omega)]
    simp only [Option.bind_some]
    rw [w64 (by omega)]
    by_cases hp : m = P a c s r
    · rw [if_pos hp, if_pos hp]
      exact ih k (m + 1) xs (by omega) (by omega) (by omega) (by omega) (by omega)
    · rw [if_neg hp, if_neg hp, if_pos (by omega), ih k (m + 1) (xs ++ [m]) (by omega) (by omega) (by omega) (by omega) (by simp; omega)]
      simp

theorem rest_length (p a : Int) (d : Nat) : ∀ m, a - m = d → (m ≤ p → p < a → ((rest p a d m).length : Int) = a - m - 1) ∧ (p < m → ((rest p a d m).length : Int) = a - m) := by
  induction d with
  | zero => intro m hd; exact ⟨fun _ _ => by omega, fun _ => by simp [rest]; omega⟩
  | succ d ih =>
    intro m hd
    obtain ⟨i1, i2⟩ := ih (m + 1) (by omega)
    simp only [rest]
    refine ⟨fun h1 h2 => ?_, fun h => ?_⟩
    · by_cases hp : m = p
      · rw [if_pos hp, i2 (by omega)]; omega
      · rw [if_neg hp]; simp only [List.length_cons]; have := i1 (by omega) h2; omega
    · rw [if_neg (by omega)]; simp only [List.length_cons]; have := i2 (by omega); omega

theorem rest_at (p a : Int) (d : Nat) : ∀ (m : Int) (i : Nat), a - m = d → i < (rest p a d m).length → (rest p a d m).getD i 0 = if m ≤ p then (if m + i ≥ p then m + i + 1 else m + i) else m + i := by
  induction d with
  | zero => intro m i _ hi; simp [rest] at hi
  | succ d ih =>
    intro m i hd hi
    simp only [rest] at hi ⊢
    by_cases hp : m = p
    · rw [if_pos hp] at hi ⊢
      rw [ih (m + 1) i (by omega) hi, if_neg (by omega), if_pos (by omega), if_pos (by omega)]; omega
    · rw [if_neg hp] at hi ⊢
      cases i with
      | zero => simp only [List.getD_cons_zero]; split
                · rw [if_neg (by omega)]; simp
                · simp
      | succ i =>
        simp only [List.length_cons] at hi
        rw [List.getD_cons_succ, ih (m + 1) i (by omega) (by omega)]
        by_cases h1 : m ≤ p
        · rw [if_pos (by omega), if_pos h1]
          by_cases h2 : m + 1 + (i : Int) ≥ p
          · rw [if_pos h2, if_pos (by omega)]; omega
          · rw [if_neg h2, if_neg (by omega)]; omega
        · rw [if_neg (by omega), if_neg h1]; omega

theorem loop (a b c e s r : Int) (ha0 : 3 ≤ a) (ha1 : a ≤ 16) (hc0 : 4 ≤ c) (hc1 : c ≤ 32) (hs0 : 0 ≤ s) (hs1 : s ≤ 1000) (hr0 : 0 ≤ r) (hr1 : r ≤ 1000) (xs : List Int) (hl : (xs.length : Int) = a - 1)
    (hx : ∀ i : Nat, i < xs.length → xs.getD i 0 = if (i : Int) ≥ P a c s r then (i : Int) + 1 else i) (d : Nat) :
    ∀ (k : Nat) (i : Int), 0 ≤ i → i ≤ a - 1 → a - 1 - i = d → d < k → gabionlaw08_GeomStripes.l0 k s r xs (P a c s r) i a b c e = some true := by
  have p0 : 0 ≤ P a c s r := Int.emod_nonneg (s * c + r) (show a ≠ 0 by omega)
  have p1 : P a c s r < a := Int.emod_lt_of_pos (s * c + r) (show 0 < a by omega)
  induction d with
  | zero =>
    intro k i h0 h1 hd hk
    obtain ⟨k, rfl⟩ : ∃ m, k = m + 1 := ⟨k - 1, by omega⟩
    simp only [gabionlaw08_GeomStripes.l0]
    rw [if_neg (by omega), slot a b c e s r _ ha0 ha1 hc0 hc1 hs0 hs1 hr0 hr1 p0 p1, if_pos rfl]
    rfl
  | succ d ih =>
    intro k i h0 h1 hd hk
    obtain ⟨k, rfl⟩ : ∃ m, k = m + 1 := ⟨k - 1, by omega⟩
    simp only [gabionlaw08_GeomStripes.l0]
    have hmem := member a b c e s r i ha0 ha1 hc0 hc1 hs0 hs1 hr0 hr1 h0 (by omega)
    have hxi := hx i.toNat (by omega)
    rw [show ((i.toNat : Nat) : Int) = i by omega] at hxi
    obtain ⟨m, hm⟩ : ∃ m, m = (if i ≥ P a c s r then i + 1 else i) := ⟨_, rfl⟩
    rw [← hm] at hxi hmem
    have hmb : 0 ≤ m ∧ m < a := by rw [hm]; split <;> omega
    have hsl := slot a b c e s r m ha0 ha1 hc0 hc1 hs0 hs1 hr0 hr1 hmb.1 hmb.2
    have hsl' : (if m = P a c s r then ((0, false) : Int × Bool) else if m > P a c s r then (m - 1, true) else (m, true)) = (i, true) := by
      by_cases hg : i ≥ P a c s r
      · rw [if_pos hg] at hm; rw [if_neg (by omega), if_pos (by omega)]; simp; omega
      · rw [if_neg hg] at hm; rw [if_neg (by omega), if_neg (by omega)]; simp; omega
    rw [hsl'] at hsl
    rw [if_pos (by omega), hmem]
    simp only [Option.bind_some]
    rw [hsl]
    simp only [Option.bind_some, if_true]
    rw [if_pos h0, if_pos (by unfold rd; exact hxi.symm), w64 (by omega)]
    exact ih k (i + 1) (by omega) (by omega) (by omega) (by omega)

theorem plain (a b c e s r : Int) : gabionlaw08_GeomStripes.f 40 a b c e s r = some true := by
  have hj : gabionlaw08_GeomStripes.j0 40 s r true a b c e = some true := by
    simp only [gabionlaw08_GeomStripes.j0, if_true, placed, Option.bind_some]
  unfold gabionlaw08_GeomStripes.f
  rcases check_cases a b c e with h | ⟨h, ha0, ha1, hb0, hb1, hc0, hc1, he0, he1⟩
  · rw [h]; simp only [Option.bind_some]; rw [if_neg (by decide)]; exact hj
  · rw [h]; simp only [Option.bind_some, if_true]
    by_cases h1 : s < 0
    · rw [if_pos h1]; exact hj
    rw [if_neg h1]
    by_cases h2 : s > 1000
    · rw [if_pos h2]; exact hj
    rw [if_neg h2]
    by_cases h3 : r < 0
    · rw [if_pos h3]; exact hj
    rw [if_neg h3]
    by_cases h4 : r > 1000
    · rw [decide_eq_true h4]; exact hj
    rw [decide_eq_false h4]
    have p0 : 0 ≤ P a c s r := Int.emod_nonneg (s * c + r) (show a ≠ 0 by omega)
    have p1 : P a c s r < a := Int.emod_lt_of_pos (s * c + r) (show 0 < a by omega)
    have hmem := members a b c e s r ha0 ha1 hc0 hc1 (by omega) (by omega) (by omega) (by omega) a.toNat 39 0 [] (by omega) (by omega) (by omega) (by omega) (by simp)
    have hlen : ((rest (P a c s r) a a.toNat 0).length : Int) = a - 1 := by
      have := (rest_length (P a c s r) a a.toNat 0 (by omega)).1 p0 p1
      omega
    have hwid : geom_Width.f a b c e = some (a - 1) := by
      unfold geom_Width.f
      rw [w64 (by omega)]; unfold mx; congr 1; omega
    simp only [gabionlaw08_GeomStripes.j0]
    rw [if_neg (by simp)]
    unfold gabionref08_Members.f
    rw [hmem, parity a b c e s r ha0 ha1 hc0 hc1 (by omega) (by omega) (by omega) (by omega), rparity a b c e s r ha0 ha1 hc0 hc1 (by omega) (by omega) (by omega) (by omega), placed, hwid]
    simp only [Option.bind_some, if_true, List.nil_append]
    simp only [gabionlaw08_GeomStripes.j1]
    rw [if_neg (by simp [hlen])]
    refine loop a b c e s r ha0 ha1 hc0 hc1 (by omega) (by omega) (by omega) (by omega) _ hlen ?_ (a - 1).toNat 38 0 (by omega) (by omega) (by omega) (by omega)
    intro i hi
    rw [rest_at (P a c s r) a a.toNat 0 i (by omega) hi, if_pos p0]
    simp only [Int.zero_add]

theorem walk {H : Type} (enc : TypeId × Value → H) (W : World) (base : Nat) (v0 : Value) (d0 : DataW H) (p0 : List MemPlace)
    (hv0 : Value.okWide Try.prog W .any base 49 v0) (h0 : DataW.Trod enc Try.prog W 0 (fun _ => true) true 49 v0 d0 p0)
    (v1 : Value) (d1 : DataW H) (p1 : List MemPlace)
    (hv1 : Value.okWide Try.prog W .any base 3 v1) (h1 : DataW.Trod enc Try.prog W 0 (fun _ => true) true 3 v1 d1 p1)
    (v2 : Value) (d2 : DataW H) (p2 : List MemPlace)
    (hv2 : Value.okWide Try.prog W .any base 3 v2) (h2 : DataW.Trod enc Try.prog W 0 (fun _ => true) true 3 v2 d2 p2)
    (_hsz : (DataW.weightsEach Try.prog [49, 3, 3] [d0, d1, d2]).all (· ≤ reachBytes) = true) :
    Calls Try.prog 14 #[v0, v1, v2] W fun e W' => e = .returned (.bool true) ∧ Below W.heap.size W W' := by
  obtain ⟨a, b, c, e, rfl, _, _, _, _⟩ := open_geo hv0 h0
  obtain ⟨s, rfl, _⟩ := open_i64 hv1 h1
  obtain ⟨r, rfl, _⟩ := open_i64 hv2 h2
  exact gabionlaw08_GeomStripes.calls 40 a b c e s r true W (plain a b c e s r)
end Go.Proofs.Ytoalihddfgehjaa.lawGeomStripes
