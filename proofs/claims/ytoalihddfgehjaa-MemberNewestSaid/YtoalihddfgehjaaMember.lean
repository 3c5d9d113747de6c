/- member: what the printed summaries say of First, Full and the laws' first and shape; and Check, by a walk of its own. -/
--only r1
import Derived.Test.YtoalihddfgehjaaPMemberFirstsx
import Derived.Test.YtoalihddfgehjaaR1
import Derived.Test.YtoalihddfgehjaaMix
import Derived.Laws.OwnMore
namespace Go.Proofs.Ytoalihddfgehjaa
set_option linter.unusedVariables false
set_option linter.unusedSimpArgs false
open Go.RowKit

abbrev geoV (a b c d : Int) : Value := .agg #[.int .i64 a, .int .i64 b, .int .i64 c, .int .i64 d]
abbrev setV (seq : Int) (chips : Value) (spare dead done : Int) : Value := .agg #[.int .u32 seq, chips, .int .i64 spare, .int .i64 dead, .int .i64 done]
def upto (n : Nat) : List Value := (List.range n).map fun (j : Nat) => i64v (j : Int)
def uptoI (n : Nat) : List Int := (List.range n).map fun (j : Nat) => (j : Int)
theorem uptoI_succ (n : Nat) : uptoI (n + 1) = uptoI n ++ [(n : Int)] := by simp [uptoI, List.range_succ]
theorem uptoI_length (n : Nat) : (uptoI n).length = n := by simp [uptoI]

theorem R_own {w : World} {base : Nat} {ok : Nat → Prop} {v : Value} {xs : List Int} (h : (YtoalihddfgehjaaW.PrintWords.Kd.int IntKind.i64).R 3 w base ok v xs) : w.ownsRow base 3 1 v xs.length (xs.map i64v) := by
  obtain ⟨inner, ho, hl, hr⟩ := h.2
  have ho1 : w.ownsRow base 3 1 v xs.length inner := ho
  have hl1 : inner.length = xs.length := by simpa using ho1.1
  have e : inner = xs.map i64v := by
    apply List.ext_getElem
    · simpa using hl1
    · intro j h1 h2
      have hj : j < xs.length := by omega
      have := hr j xs[j] (List.getElem?_eq_getElem hj)
      have h3 : (inner.drop (j * 1)).take 1 = [inner[j]] := by
        rw [Nat.mul_one, List.drop_eq_getElem_cons h1]; rfl
      have h4 : [inner[j]] = [i64v xs[j]] := by rw [← h3]; exact this
      simpa using h4
  rw [← e]
  exact ho

theorem first_f (n : Nat) (hn : n ≤ 64) (s sp dd dn : Int) : ∀ (m i : Nat), i + m = n → PMemberFirsts.member_First.l0 (m + 1) (n : Int) (i : Int) s (uptoI i) sp dd dn = some (s, uptoI n, sp, dd, dn) := by
  intro m
  induction m with
  | zero =>
    intro i hi
    obtain rfl : i = n := by omega
    simp [PMemberFirsts.member_First.l0]
  | succ m ih =>
    intro i hi
    rw [PMemberFirsts.member_First.l0, if_pos (by omega), uptoI_length, if_pos (by omega)]
    have : wrap64 ((i : Int) + 1) = ((i + 1 : Nat) : Int) := by unfold wrap64; omega
    rw [this, ← uptoI_succ]
    exact ih (i + 1) (by omega)

theorem First_calls (n : Nat) (b c d : Int) (w : World) (hn : n ≤ 64) :
    Calls Try.prog 44 #[geoV n b c d] w fun e w' => ∃ v, e = .returned (setV 1 v n 255 0) ∧ w'.ownsRow w.heap.size 3 1 v n ((uptoI n).map i64v) ∧ Below w.heap.size w w' := by
  have hmx : YtoalihddfgehjaaW.PrintWords.mx 0 (n : Int) = (n : Int) := by unfold YtoalihddfgehjaaW.PrintWords.mx; split <;> omega
  have hf : PMemberFirsts.member_First.f (n + 1) (n : Int) b c d = some (1, uptoI n, (n : Int), 255, 0) := by
    unfold PMemberFirsts.member_First.f
    rw [hmx]
    exact first_f n hn 1 n 255 0 n 0 (by omega)
  refine (PMemberFirsts.member_First.calls (n + 1) n b c d 1 (uptoI n) n 255 0 w hf).mono ?_
  rintro e w' ⟨v, rfl, hr, hb⟩
  have := R_own hr
  rw [uptoI_length] at this
  exact ⟨v, rfl, this, hb⟩

theorem first_calls (w : World) : Calls Try.prog 26 #[] w fun e w' => e = .returned (.bool true) ∧ Below w.heap.size w w' :=
  PMemberFirsts.gabionlaw12_first.calls 10 true w (by decide +kernel)

theorem shape_calls (c : Int) (k : Nat) (w : World) (hk : wrap64 ((IntKind.u64.wrap c).tmod 14) = (k : Int)) (hk14 : k < 14) :
    Calls Try.prog 47 #[.int .i64 c] w fun e w' => e = .returned (geoV ((3 + k : Nat) : Int) 20 6 256) ∧ Below w.heap.size w w' := by
  refine (PMemberFirsts.gabionlaw12_shape.calls c ((3 + k : Nat) : Int) 20 6 256 w ?_)
  unfold PMemberFirsts.gabionlaw12_shape.f
  rw [hk]
  have : wrap64 (3 + (k : Int)) = ((3 + k : Nat) : Int) := by unfold wrap64; omega
  rw [this]

theorem infoMInt : (Try.prog.info? 3).map (fun i => (i.zero, i.size, i.bytes)) = some (some (.int .i64 0), 1, 8) := by kernel_rfl
theorem make_int (n : Nat) (hn : n ≤ 1000000) (w : World) : (Instr.makeSlice 38 (.int .i64 ((n : Int) + 1)) (.int .i64 ((n : Int) + 1))).run Try.prog w =
    .ok (.slice (some ⟨w.heap.size, 0, none⟩) (n + 1) (n + 1)) (w.alloc (.cells (List.replicate (n + 1) (Value.int .i64 0)).toArray 3)) := by
  obtain ⟨i, hi, hz0, hz1, hz2⟩ := info_parts infoMInt
  have h := run_make (P := Try.prog) w 38 3 i (.int .i64 0) Try.underlying38 hi hz0 .i64 .i64 (n + 1) (n + 1) (by omega) (by omega) (by rw [hz2]; omega) (by omega)
  rw [hz1, Nat.mul_one, made_rep _ rfl] at h
  simpa using h

/-- which chips are seen -/
def seenRow (n : Nat) (S : List Int) : List Value := (List.range (n + 1)).map fun (j : Nat) => i64v (if (j : Int) ∈ S then 1 else 0)
def GoodL (n : Nat) (L : List Int) : Prop := ∀ (j : Nat) (h : j < L.length), 0 ≤ L[j] ∧ L[j] ≤ (n : Int) ∧ L[j] ∉ L.take j
theorem seen_zero (n : Nat) : List.replicate (n + 1) (Value.int .i64 0) = seenRow n [] := by
  apply List.ext_getElem
  · simp [seenRow]
  · intro i h1 h2; simp [seenRow]
theorem seen_get (n : Nat) (S : List Int) (j : Nat) (h : j ≤ n) : (seenRow n S)[j]? = some (i64v (if (j : Int) ∈ S then 1 else 0)) := by simp [seenRow, show j < n + 1 by omega]
theorem seen_set (n : Nat) (S : List Int) (j : Nat) (h : j ≤ n) : (seenRow n S).set j (i64v 1) = seenRow n (S ++ [(j : Int)]) := by
  apply List.ext_getElem
  · simp [seenRow]
  · intro i h1 h2
    rw [List.getElem_set]
    simp only [seenRow, List.getElem_map, List.getElem_range]
    by_cases e : j = i
    · subst e; simp
    · rw [if_neg e]
      congr 2
      simp only [List.mem_append, List.mem_singleton, eq_iff_iff]
      constructor
      · exact .inl
      · rintro (h | h)
        · exact h
        · exact absurd (by omega) e
end Go.Proofs.Ytoalihddfgehjaa
