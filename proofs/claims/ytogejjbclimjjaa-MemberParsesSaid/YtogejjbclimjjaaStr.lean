/- bytes as a text; r1.Same. -/
--only r2
import Derived.Test.YtogejjbclimjjaaR1
import Derived.Test.YtogejjbclimjjaaOnly
import Derived.Laws.Strings
namespace Go.Proofs.Ytogejjbclimjjaa
set_option linter.unusedVariables false
set_option linter.unusedSimpArgs false
open Go.RowKit

def strOf (l : List UInt8) : ByteArray := ⟨l.toArray⟩
theorem strOf_inj {l m : List UInt8} : strOf l = strOf m ↔ l = m := by
  constructor
  · intro h
    unfold strOf at h
    have := congrArg (fun b => b.data.toList) h
    simpa using this
  · rintro rfl; rfl
theorem foldl_push (l : List UInt8) (s : ByteArray) : (l.map fun c => (c.toNat : Int)).foldl (fun r n => r.push (UInt8.ofNat n.toNat)) s = ⟨s.data ++ l.toArray⟩ := by
  induction l generalizing s with
  | nil => simp
  | cons c l ih =>
    simp only [List.map_cons, List.foldl_cons]
    rw [ih]
    have : UInt8.ofNat ((c.toNat : Int)).toNat = c := by simp
    rw [this]
    congr 1
    simp [ByteArray.push]
theorem run_loadCells_bytes {P : Program} {w : World} {b o : Nat} {l : List UInt8} (h : ∀ (i : Nat) (h : i < l.length), w.cell? ⟨b, o + i, none⟩ = some (u8v l[i])) : (loadCells ⟨b, o, none⟩ l.length).run P w = .ok ((l.map fun c => (c.toNat : Int)).map (Value.int .u8)).toArray w := by
  have := run_loadCells_list (P := P) w ⟨b, o, none⟩ (l.map u8v) (fun j u hu => by
    obtain ⟨hj, rfl⟩ := List.getElem?_eq_some_iff.mp hu
    rw [add_plain]
    have := h j (by simpa using hj)
    rw [this]; simp)
  rw [List.length_map] at this
  rw [this]
  simp [u8v, Function.comp_def]
/-- string(b) -/
theorem run_str {w : World} {v : Value} {l : List UInt8} (h : RB w v l) : (convert 23 9 v).run Try.prog w = .ok (.string (strOf l)) w := by
  obtain ⟨i, hi, hz0, hz1, hz2⟩ := info_parts infoU8
  obtain ⟨a, cap, e, h1, h2, h0, h3⟩ := h
  subst e
  rw [run_convert_bytes_string w 23 9 5 a _ cap Try.underlying23 Try.underlying5 Try.underlying9]
  rw [List.length_map]
  rcases h3 with h3 | ⟨b, o, rfl, hc⟩
  · have h3 : l = [] := by simpa using h3
    subst h3
    cases a with
    | none => rfl
    | some ad => rfl
  · rw [run_bytesToString w ⟨b, o, none⟩ l.length cap (l.map fun c => (c.toNat : Int)) (run_loadCells_bytes fun i hi => by
      have := hc i (by simpa using hi)
      rw [List.getElem_map] at this; exact this), foldl_push]
    simp [strOf]

set_option maxHeartbeats 1000000 in
theorem rsame_calls (v u : Value) (l m : List UInt8) (w : World) (hv : RB w v l) (hu : RB w u m) :
    Calls Try.prog 27 #[v, u] w fun e w' => e = .returned (.bool (decide (l = m))) ∧ w = w' := by
  have h1 := run_str hv
  have h2 := run_str hu
  obtain ⟨a, c, rfl, -, -⟩ := hv.form
  obtain ⟨a2, c2, rfl, -, -⟩ := hu.form
  have hE : ((strOf l).toList == (strOf m).toList) = decide (l = m) := by
    unfold strOf
    rw [ByteArray.toList_mk, ByteArray.toList_mk]
    by_cases h : l = m
    · rw [decide_eq_true h]; simp [h]
    · rw [decide_eq_false h]; simp [h]
  have HE := Lib.hid hE
  clear hE
  go_enter Try.func27, Try.ntmps27
  go_wp2_with fail
  go_ret
  exact ⟨by rw [← HE.out]; rfl, rfl⟩
end Go.Proofs.Ytogejjbclimjjaa
