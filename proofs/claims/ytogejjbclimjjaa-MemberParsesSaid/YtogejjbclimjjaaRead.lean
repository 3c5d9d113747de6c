/- cursor.Read: a function reads bytes; where it runs short that is told. -/
--only r2
import Derived.Test.YtogejjbclimjjaaReader
import Derived.Defers
import Derived.Recover
namespace Go.Proofs.Ytogejjbclimjjaa
set_option linter.unusedVariables false
set_option linter.unusedSimpArgs false
open Go.RowKit

set_option maxRecDepth 100000 in
set_option maxHeartbeats 1000000 in
theorem run_isShort (k : Nat) (w : World) : (Instr.typeAssert (shortV k) 20 137 true).run Try.prog w = .ok (.tuple #[.agg #[.int .i64 k], .bool true]) w := by kernel_rfl

set_option maxRecDepth 100000 in
set_option maxHeartbeats 1000000 in
theorem catch_short (p : Nat) (x : Int) (k : Nat) (w : World) (hc : w.cell? ⟨p, 0, none⟩ = some (.int .i64 x)) (hz : w.frozen? ⟨p, 0, none⟩ = false) :
    CallsD Try.prog 73 #[ptrV p] (.panicking [{ v := shortV k, recovered := false }]) w fun e u' w' =>
      e = .returned (.tuple #[]) ∧ u' = .panicking [{ v := shortV k, recovered := true }] ∧ w' = (w.setCell ⟨p, 0, none⟩ (.int .i64 62)).alloc (.cells #[.int .i64 k] 137) := by
  have hta := run_isShort k
  have hlt := cell_lt hc
  refine callsD_of_wpS Try.func73 rfl fun c₀ cs hu => ?_
  apply wpS_seq
  apply wpS_region
  simp [wpOpsS, go_sem, recoverD, hu, Try.ntmps73, Exit.thenS]
  simp only [Array.replicate_succ, Array.replicate_zero, List.push_toArray, List.nil_append, List.cons_append, List.append_toArray, List.setIfInBounds_toArray, List.set_cons_succ, List.set_cons_zero]
  refine wpS_of_wp ?_
  go_wp2_with fail
  exact ⟨rfl, _, rfl, _, results_none rfl _ _ _, rfl, rfl, rfl⟩

set_option maxRecDepth 100000 in
set_option maxHeartbeats 1000000 in
theorem catch_none (p : Nat) (w : World) :
    CallsD Try.prog 73 #[ptrV p] .returning w fun e u' w' => e = .returned (.tuple #[]) ∧ u' = .returning ∧ w' = w := by
  refine callsD_of_wpS Try.func73 rfl fun c₀ cs hu => ?_
  apply wpS_seq
  apply wpS_region
  simp [wpOpsS, go_sem, recoverD, hu, Try.ntmps73, Exit.thenS]
  simp only [Array.replicate_succ, Array.replicate_zero, List.push_toArray, List.nil_append, List.cons_append, List.append_toArray, List.setIfInBounds_toArray, List.set_cons_succ, List.set_cons_zero]
  refine wpS_of_wp ?_
  go_wp2_with fail
  cases c₀
  simp_all [bodyPostS, results, Try.results73]

set_option maxRecDepth 100000 in
set_option maxHeartbeats 1000000 in
/-- what is read by a function that ends in R true, or runs short in R false -/
theorem read_calls (F : Nat) (cap : Array Value) (v : Value) (l : List UInt8) (w : World) (S : Nat → Prop) (R : Bool → World → Prop) (hv : RB w v l) (hS : ¬ S w.heap.size) (hcf : ∀ (args : Array Value) (w : World), (callFunc F args).run Try.prog w = .ok (.enter F args) w)
    (hby : ∀ w1 r, Below w.heap.size w w1 → w.heap.size < r → Rd w1 r v l 0 → w1.heap[w.heap.size]? = some (.cells #[.int .i64 0] 42 (0, 0)) → Calls Try.prog F (#[ptrV r] ++ cap) w1 fun e w' => ∃ b : Bool, (if b then e = .returned (.tuple #[]) else ∃ k, e = shortPanic k) ∧ R b w' ∧ Only (fun x => x = r ∨ S x) w1 w') :
    Calls Try.prog 42 #[v, .func (.func F) #[] cap] w fun e w' => ∃ b : Bool, e = .returned (.int .i64 (if b then 0 else 62)) ∧ ∃ w2, R b w2 ∧ Only (fun x => x = w.heap.size) w2 w' ∧ Only (fun x => S x) w w2 := by
  have hmf : ∀ (fn : Fn) (first cap : Array Value) (w : World), (Instr.makeFunc fn first cap).run Try.prog w = .ok (.func fn first cap) w := fun _ _ _ _ => rfl
  have hcmp : ∀ w, (binOp BinOp.eql 106 (.func (.func F) #[] cap) .nilFunc).run Try.prog w = .ok (.bool false) w := fun _ => by kernel_rfl
  obtain ⟨a, c, rfl, hl, hm⟩ := hv.form
  have HBY := Lib.hid hby
  clear hby
  go_enter_defers Try.func42, Try.ntmps42
  go_wp2_with fail
  have hE : ((w.alloc (.cells #[.int .i64 0] 42)).alloc (.cells #[.slice a l.length c, .int .i64 0] 140)).heap[w.heap.size]? = some (.cells #[.int .i64 0] 42 (0, 0)) := heap_old _ (heap_is rfl)
  have hRd : ((w.alloc (.cells #[.int .i64 0] 42)).alloc (.cells #[.slice a l.length c, .int .i64 0] 140)).heap[w.heap.size + 1]? = some (.cells #[.slice a l.length c, .int .i64 0] 140 (0, 0)) := heap_is (by simp)
  have hbel := ((Below.refl w.heap.size w).alloc (Nat.le_refl _) (.cells #[.int .i64 0] 42)).alloc (by simp) (.cells #[.slice a l.length c, .int .i64 0] 140)
  have hv1 := hv.below hbel
  generalize (w.alloc (.cells #[.int .i64 0] 42)).alloc (.cells #[.slice a l.length c, .int .i64 0] 140) = w1 at hE hRd hbel hv1 ⊢
  refine (HBY.out w1 (w.heap.size + 1) hbel (by omega) ⟨hRd, hv1, Nat.zero_le _⟩ hE).mono ?_
  rintro e w2 ⟨b, he, hR, hO⟩
  have hE2 : w2.heap[w.heap.size]? = some (.cells #[.int .i64 0] 42 (0, 0)) := hO.at hE (fun h => by rcases h with h | h; omega; exact hS h)
  have hO2 : Only (fun x => S x) w w2 := (Only.new hbel (fun x => S x)).trans hO fun b hb h => by rcases h with h | h; omega; exact h
  cases b with
  | true =>
    simp only [if_true] at he
    subst he
    have hE2_0 := cells_at hE2 0 _ rfl
    have hE2_f := froz_at hE2 0
    go_wp2_with fail
    have hcell : (w2.setCell ⟨w.heap.size, 0, none⟩ (.int .i64 0)).cell? ⟨w.heap.size, 0, none⟩ = some (.int .i64 0) := cells_at (set_at (o := 0) hE2 _) 0 _ rfl
    refine leaves_cons (f := 73) (args := #[ptrV w.heap.size]) (by simp) (by simp [go_sem]) ?_
    refine (catch_none w.heap.size _).mono ?_
    rintro e u' w'' ⟨rfl, rfl, rfl⟩
    refine ⟨.int .i64 0, ?_, true, rfl, w2, hR, Only.of_set w2 ⟨w.heap.size, 0, none⟩ _, hO2⟩
    simp [results, Try.results42, go_sem, hcell]
  | false =>
    simp only [Bool.false_eq_true, if_false] at he
    obtain ⟨k, rfl⟩ := he
    have hE2_0 := cells_at hE2 0 _ rfl
    have hE2_f := froz_at hE2 0
    simp only [Exit.then]
    have hlt := heap_lt hE2
    have hcell : ((w2.setCell ⟨w.heap.size, 0, none⟩ (.int .i64 62)).alloc (.cells #[.int .i64 k] 137)).cell? ⟨w.heap.size, 0, none⟩ = some (.int .i64 62) := cells_at (heap_old _ (set_at (o := 0) hE2 _)) 0 _ rfl
    refine leaves_cons (f := 73) (args := #[ptrV w.heap.size]) (by simp) (by simp [go_sem]) ?_
    refine (catch_short w.heap.size 0 k _ hE2_0 hE2_f).mono ?_
    rintro e u' w'' ⟨rfl, rfl, rfl⟩
    refine ⟨.int .i64 62, ?_, false, rfl, w2, hR, (Only.of_set w2 ⟨w.heap.size, 0, none⟩ _).alloc _, hO2⟩
    simp [results, Try.results42, go_sem, hcell]
end Go.Proofs.Ytogejjbclimjjaa
