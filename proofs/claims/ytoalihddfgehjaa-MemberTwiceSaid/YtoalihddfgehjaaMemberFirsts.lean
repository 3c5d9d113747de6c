/- MemberFirsts: the walk. -/
--only r1
import Derived.Test.YtoalihddfgehjaaSetCheck
import Derived.Test.YtoalihddfgehjaaKnown
import Derived.Test.YtoalihddfgehjaaOpens
namespace Go.Proofs.Ytoalihddfgehjaa
set_option linter.unusedVariables false
set_option linter.unusedSimpArgs false
open Go.RowKit

theorem cells_at {w : World} {b t : Nat} {cs : Array Value} {fz : Nat × Nat} (h : w.heap[b]? = some (.cells cs t fz)) (j : Nat) (u : Value) (hj : cs[j]? = some u) : w.cell? ⟨b, j, none⟩ = some u := by
  simp only [World.cell?, h]; simpa using hj
theorem heap_keep {w w' : World} {b : Nat} {o : Obj} (hb : Below w.heap.size w w') (h : w.heap[b]? = some o) : w'.heap[b]? = some o := by
  rw [hb.block b (heap_lt h)]; exact h
theorem own_keep {w w' : World} {base e size n : Nat} {v : Value} {xs : List Value} (h : w.ownsRow base e size v n xs) (hb : Below w.heap.size w w') : w'.ownsRow base e size v n xs := by
  obtain ⟨h1, h2⟩ := h
  refine ⟨h1, ?_⟩
  rcases h2 with h2 | ⟨g, cap, cur, hv, hg, hh, r⟩
  · exact .inl h2
  · exact .inr ⟨g, cap, cur, hv, hg, heap_keep hb hh, r⟩

theorem Full_calls (seq : Int) (a : Option Addr) (n k : Nat) (sp dead done : Int) (w : World) : Calls Try.prog 46 #[setV seq (.slice a n k) sp dead done] w fun e w' => e = .returned (.bool (dead == 255)) ∧ Below w.heap.size w w' := by
  go_enter Try.func46, Try.ntmps46
  go_wp2_with fail
  go_ret
  exact ⟨rfl, by go_grown⟩

theorem upto_good (n : Nat) : GoodL n (uptoI n ++ [(n : Int)]) := by
  rw [← uptoI_succ]
  intro j hj
  rw [uptoI_length] at hj
  have hx : (uptoI (n + 1))[j]'(by rw [uptoI_length]; exact hj) = (j : Int) := by simp [uptoI]
  refine ⟨by rw [hx]; omega, by rw [hx]; omega, ?_⟩
  rw [hx]
  intro hm
  obtain ⟨i, hi, he⟩ := List.getElem_of_mem hm
  simp only [List.length_take, uptoI_length] at hi
  have : (uptoI (n + 1))[i]'(by rw [uptoI_length]; omega) = (i : Int) := by simp [uptoI]
  rw [List.getElem_take, this] at he
  omega

theorem geo_two (a b c d : Int) : PMemberFirsts.api_Geo_Check.f a b c d = some 0 ∨ PMemberFirsts.api_Geo_Check.f a b c d = some 34 := by
  unfold PMemberFirsts.api_Geo_Check.f
  repeat' split
  all_goals first | exact .inl rfl | exact .inr rfl
end Go.Proofs.Ytoalihddfgehjaa
namespace Go.Proofs.Ytoalihddfgehjaa.lawMemberFirsts
open Go.RowKit Go.ChangeShapes Go.WideShapes
set_option linter.unusedVariables false
set_option linter.unusedSimpArgs false
set_option maxHeartbeats 4000000 in
theorem law (a b c d : Int) (w : World) :
    Calls Try.prog 16 #[geoV a b c d] w fun e w' => e = .returned (.bool true) ∧ Below w.heap.size w w' := by
  rcases geo_two a b c d with hg | hg
  · obtain ⟨hn1, hn2, _⟩ := geo_ok hg
    obtain ⟨n, rfl⟩ : ∃ n : Nat, a = n := ⟨a.toNat, by omega⟩
    go_enter Try.func16, Try.ntmps16
    go_wp2_with fail
    refine (PMemberFirsts.api_Geo_Check.calls n b c d 0 _ hg).mono ?_
    rintro e w1 ⟨rfl, hb1⟩
    have hB : w1.heap[w.heap.size]? = some (.cells #[.int .i64 (n : Int), .int .i64 b, .int .i64 c, .int .i64 d] 49 (0, 0)) := heap_keep hb1 (heap_is rfl)
    have hbel1 : Below w.heap.size w w1 := ((Below.refl w.heap.size w).alloc (Nat.le_refl _) _).trans (hb1.mono (by simp))
    clear hb1
    have k0 := cells_at hB 0 _ rfl
    have k1 := cells_at hB 1 _ rfl
    have k2 := cells_at hB 2 _ rfl
    have k3 := cells_at hB 3 _ rfl
    go_wp2_with fail
    refine (First_calls n b c d _ (by omega)).mono ?_
    rintro e w2 ⟨v, rfl, hown, hb2⟩
    rcases hown.2 with ⟨_, h0⟩ | ⟨g, cv, _, rfl, _, _⟩
    · exfalso; omega
    have hB2 := heap_keep hb2 hB
    have hbel2 := hbel1.trans (hb2.mono hbel1.size)
    clear hB k0 k1 k2 k3 hb2
    go_wp2_with fail
    refine (first_calls _).mono ?_
    rintro e w3 ⟨rfl, hb3⟩
    have hS3 : w3.heap[w2.heap.size]? = some (.cells #[.int .u32 1, .slice (some ⟨g, 0, none⟩) n cv, .int .i64 (n : Int), .int .i64 255, .int .i64 0] 40 (0, 0)) := heap_keep hb3 (heap_is rfl)
    have hba := (Below.refl w2.heap.size w2).alloc (Nat.le_refl _) (.cells #[.int .u32 1, .slice (some ⟨g, 0, none⟩) n cv, .int .i64 (n : Int), .int .i64 255, .int .i64 0] 40)
    have hb23 : Below w2.heap.size w2 w3 := hba.trans (hb3.mono (by simp))
    have hB3 := heap_keep hb23 hB2
    have hown3 := own_keep hown hb23
    have hbel3 := hbel2.trans (hb23.mono hbel2.size)
    clear hb3 hba hb23 hown hB2
    have k0 := cells_at hB3 0 _ rfl
    have k1 := cells_at hB3 1 _ rfl
    have k2 := cells_at hB3 2 _ rfl
    have k3 := cells_at hB3 3 _ rfl
    have s0 := cells_at hS3 0 _ rfl
    have s1 := cells_at hS3 1 _ rfl
    have s2 := cells_at hS3 2 _ rfl
    have s3 := cells_at hS3 3 _ rfl
    have s4 := cells_at hS3 4 _ rfl
    have hn3 : ¬ (n : Int) = 255 := by omega
    go_wp2_with fail
    refine (Check_calls n b c d 1 _ (uptoI n) n 0 _ hg (RV.own hown3) (uptoI_length n) (by omega)).mono ?_
    rintro e w4 ⟨⟨z, rfl, hz⟩, hb4⟩
    have hz0 : z = 0 := hz.2 ⟨rfl, upto_good n⟩
    subst hz0
    clear hz
    have hB4 := heap_keep hb4 hB3
    have hS4 := heap_keep hb4 hS3
    have hown4 := own_keep hown3 hb4
    have hbel4 := hbel3.trans (hb4.mono hbel3.size)
    clear hb4 hB3 hS3 hown3 k0 k1 k2 k3 s0 s1 s2 s3 s4
    have k0 := cells_at hB4 0 _ rfl
    have k1 := cells_at hB4 1 _ rfl
    have k2 := cells_at hB4 2 _ rfl
    have k3 := cells_at hB4 3 _ rfl
    have s0 := cells_at hS4 0 _ rfl
    have s1 := cells_at hS4 1 _ rfl
    have s2 := cells_at hS4 2 _ rfl
    have s3 := cells_at hS4 3 _ rfl
    have s4 := cells_at hS4 4 _ rfl
    go_wp2_with fail
    refine (Full_calls 1 _ n cv n 255 0 _).mono ?_
    rintro e w5 ⟨rfl, hb5⟩
    have hB5 := heap_keep hb5 hB4
    have hS5 := heap_keep hb5 hS4
    have hown5 := own_keep hown4 hb5
    have hbel5 := hbel4.trans (hb5.mono hbel4.size)
    clear hb5 hB4 hS4 hown4 k0 k1 k2 k3 s0 s1 s2 s3 s4
    have k0 := cells_at hB5 0 _ rfl
    have s1 := cells_at hS5 1 _ rfl
    have hcell : ∀ i : Nat, i < n → w5.cell? ⟨g, i, none⟩ = some (.int .i64 (i : Int)) := fun i hi => by
      rw [hown5.cellAt (j := i) (by omega)]
      simp [uptoI, hi]
    have HC := Lib.hid hcell
    clear hcell hown5 hB5 hS5
    go_wp2_with fail
    go_loop [4] (fun x4 => ∃ i : Nat, i ≤ n ∧ x4 = .int .i64 i) (fun x4 => n - (intOf x4).toNat)
    case atStart => exact ⟨0, Nat.zero_le _, rfl⟩
    case round =>
      obtain ⟨i, hi, rfl⟩ := hrel
      by_cases hin : i < n
      · have hc := HC.out i hin
        go_wp2_with fail
        go_round
        case rel => exact ⟨i + 1, by omega, by go_num⟩
        case measure => simp [intOf]; omega
      · obtain rfl : i = n := by omega
        go_wp2_with fail
        go_ret
        exact ⟨rfl, hbel5⟩
  · go_enter Try.func16, Try.ntmps16
    go_wp2_with fail
    refine (PMemberFirsts.api_Geo_Check.calls a b c d 34 _ hg).mono ?_
    rintro e w1 ⟨rfl, hb1⟩
    have hbel1 : Below w.heap.size w w1 := ((Below.refl w.heap.size w).alloc (Nat.le_refl _) _).trans (hb1.mono (by simp))
    clear hb1
    go_wp2_with fail
    refine (first_calls _).mono ?_
    rintro e w2 ⟨rfl, hb2⟩
    go_wp2_with fail
    go_ret
    exact ⟨rfl, hbel1.trans (hb2.mono hbel1.size)⟩

theorem walk {H : Type} (enc : TypeId × Value → H) (W : World) (base : Nat) (v0 : Value) (d0 : DataW H) (p0 : List MemPlace)
    (hv0 : Value.okWide Try.prog W .any base 49 v0) (h0 : DataW.Trod enc Try.prog W 0 (fun _ => true) true 49 v0 d0 p0)
    (_hsz : (DataW.weightsEach Try.prog [49] [d0]).all (· ≤ reachBytes) = true) :
    Calls Try.prog 16 #[v0] W fun e W' => e = .returned (.bool true) ∧ Below W.heap.size W W' := by
  obtain ⟨a, b, c, d, rfl, _⟩ := opens_geo hv0 h0
  exact law a b c d W
end Go.Proofs.Ytoalihddfgehjaa.lawMemberFirsts
