/- GeomSizes: the plain law over the printed functions, and the walk. -/
import Derived.Test.YtoalihddfgehjaaPGeomSizesx
import Derived.Test.YtoalihddfgehjaaGeo
namespace Go.Proofs.Ytoalihddfgehjaa.lawGeomSizes
open Go.RowKit Go.Proofs.Ytoalihddfgehjaa.PGeomSizes Go.Proofs.YtoalihddfgehjaaW.PrintWords Go.Proofs.YtoalihddfgehjaaW.PrintLast

theorem w64 {x : Int} (h : -9223372036854775808 ≤ x ∧ x ≤ 9223372036854775807) : wrap64 x = x := by unfold wrap64; omega

theorem placed : gabionlaw08_placed.f = some true := by decide +kernel

theorem check_cases (a b c e : Int) : (api_Geo_Check.f a b c e = some 34) ∨ (api_Geo_Check.f a b c e = some 0 ∧ 3 ≤ a ∧ a ≤ 16 ∧ 16 ≤ b ∧ b ≤ 64 ∧ 4 ≤ c ∧ c ≤ 32 ∧ 256 ≤ e ∧ e ≤ 1024) := by
  unfold api_Geo_Check.f
  repeat' (split; exact .inl rfl)
  split
  · exact .inr ⟨rfl, by omega, by omega, by omega, by omega, by omega, by omega, by omega, by omega⟩
  · exact .inl rfl

theorem pages_eq {a b c e : Int} (h : 3 ≤ a ∧ a ≤ 16 ∧ 4 ≤ c ∧ c ≤ 32) : ∃ P, P = c * (a - 1) ∧ 8 ≤ P ∧ P ≤ 480 ∧ geom_Pages.f a b c e = some P := by
  have h1 : 4 * 2 ≤ c * (a - 1) := Int.mul_le_mul (by omega) (by omega) (by omega) (by omega)
  have h2 : c * (a - 1) ≤ 32 * 15 := Int.mul_le_mul (by omega) (by omega) (by omega) (by omega)
  refine ⟨_, rfl, by omega, by omega, ?_⟩
  unfold geom_Pages.f geom_Width.f
  have hm : mx 1 (wrap64 (a - 1)) = a - 1 := by rw [w64 (by omega)]; unfold mx; omega
  simp only [Option.bind_some, hm]
  rw [w64 (by omega)]

theorem plain (a b c e : Int) : gabionlaw08_GeomSizes.f a b c e = some true := by
  unfold gabionlaw08_GeomSizes.f
  rcases check_cases a b c e with h | ⟨h, ha0, ha1, hb0, hb1, hc0, hc1, he0, he1⟩
  · have hcap : geom_Capacity.f a b c e = some 0 := by unfold geom_Capacity.f; rw [h]; rfl
    rw [h, placed, hcap]; rfl
  · obtain ⟨P, hP, hP0, hP1, hpg⟩ := pages_eq (a := a) (b := b) (c := c) (e := e) ⟨ha0, ha1, hc0, hc1⟩
    have hseg : geom_Segments.f a b c e = some (b - 11) := by
      unfold geom_Segments.f api_Geo_Virtual.f
      simp only [Option.bind_some]
      rw [w64 (x := b - 2) (by omega), w64 (x := b - 2 - 3) (by omega), w64 (by omega)]
      unfold mx; congr 1; omega
    have hvir : api_Geo_Virtual.f a b c e = some (b - 5) := by
      unfold api_Geo_Virtual.f
      rw [w64 (x := b - 2) (by omega), w64 (by omega)]; congr 1; omega
    obtain ⟨Q, hQ⟩ : ∃ Q, Q = (b - 11 - 4) * P := ⟨_, rfl⟩
    have hQ0 : 1 * 8 ≤ (b - 11 - 4) * P := Int.mul_le_mul (by omega) (by omega) (by omega) (by omega)
    have hQ1 : (b - 11 - 4) * P ≤ 49 * 480 := Int.mul_le_mul (by omega) (by omega) (by omega) (by omega)
    obtain ⟨R, hR⟩ : ∃ R, R = P * e := ⟨_, rfl⟩
    have hR0 : 8 * 256 ≤ P * e := Int.mul_le_mul (by omega) (by omega) (by omega) (by omega)
    have hR1 : P * e ≤ 480 * 1024 := Int.mul_le_mul (by omega) (by omega) (by omega) (by omega)
    rw [← hQ] at hQ0 hQ1
    rw [← hR] at hR0 hR1
    have hcap : geom_Capacity.f a b c e = some (max 0 (min (Q / 2) ((R - 32) / 4 - (b - 5)))) := by
      unfold geom_Capacity.f
      rw [h, hseg, hpg, hvir]
      simp only [Option.bind_some, if_true]
      rw [w64 (x := b - 11 - 4) (by omega), ← hQ, ← hR, w64 (x := Q) (by omega), w64 (x := R) (by omega), w64 (x := R - 32) (by omega),
        Int.tdiv_eq_ediv_of_nonneg (by omega), Int.tdiv_eq_ediv_of_nonneg (by omega), w64 (x := Q / 2) (by omega), w64 (x := (R - 32) / 4) (by omega), w64 (by omega)]
      unfold mx mn; congr 1; omega
    have href : gabionref08_Capacity.f a b c e = some (max 0 (min (Q / 2) ((R - 32) / 4 - (b - 5)))) := by
      unfold gabionref08_Capacity.f
      rw [w64 (x := b - 11) (by omega), w64 (x := b - 11 - 4) (by omega), w64 (x := a - 1) (by omega), ← hP, w64 (x := P) (by omega), ← hQ, ← hR, w64 (x := Q) (by omega), w64 (x := R) (by omega), w64 (x := R - 32) (by omega),
        Int.tdiv_eq_ediv_of_nonneg (by omega), Int.tdiv_eq_ediv_of_nonneg (by omega), w64 (x := Q / 2) (by omega), w64 (x := (R - 32) / 4) (by omega), w64 (x := b - 5) (by omega), w64 (by omega)]
      rw [if_neg (by omega)]
      split <;> split <;> (congr 1; omega)
    have hpair : geom_Pairs.f a b c e = some (wrap64 (Int.tdiv a 2)) := rfl
    rw [h, placed, hseg, hpg, hpair, hcap, href]
    simp only [Option.bind_some, if_true]
    rw [if_pos (by rw [w64 (by omega)]), w64 (x := a - 1) (by omega), ← hP, w64 (x := P) (by omega), if_pos rfl]
    simp

theorem walk {H : Type} (enc : TypeId × Value → H) (W : World) (base : Nat) (v0 : Value) (d0 : DataW H) (p0 : List MemPlace)
    (hv0 : Value.okWide Try.prog W .any base 49 v0) (h0 : DataW.Trod enc Try.prog W 0 (fun _ => true) true 49 v0 d0 p0) (_hsz : (DataW.weightsEach Try.prog [49] [d0]).all (· ≤ reachBytes) = true) :
    Calls Try.prog 15 #[v0] W fun e W' => e = .returned (.bool true) ∧ Below W.heap.size W W' := by
  obtain ⟨a, b, c, e, rfl, _, _, _, _⟩ := open_geo hv0 h0
  exact gabionlaw08_GeomSizes.calls a b c e true W (plain a b c e)
end Go.Proofs.Ytoalihddfgehjaa.lawGeomSizes
