/- Chips as bytes, plainly; a writer's chain beside blocks that are held. -/
--only r2
import Derived.Test.YtphnjiokihbhnaaNandSpec
import Derived.Test.YtphnjiokihbhnaaChain
import Derived.Test.YtphnjiokihbhnaaCrc
namespace Go.Proofs.Ytphnjiokihbhnaa
set_option linter.unusedVariables false
set_option linter.unusedSimpArgs false
open Go.RowKit

def bitN (x : Bool) : Nat := if x then 1 else 0
theorem bitN_lt (x : Bool) : bitN x < 256 := by cases x <;> decide
def pageB (l : List UInt8) : List UInt8 := leAll 1 [bitN (decide (l ≠ []))] ++ l
def pagesB (M : Nd) (c b k : Nat) : List UInt8 := (List.range k).flatMap fun p => pageB (M.page c b p)
def blockB (M : Nd) (c b : Nat) : List UInt8 := leAll 1 [bitN (M.bad c b), M.next c b] ++ leAll 4 [M.erases c b % 4294967296] ++ pagesB M c b M.pgs
def blocksB (M : Nd) (c k : Nat) : List UInt8 := (List.range k).flatMap (blockB M c)
def chipB (M : Nd) (c : Nat) : List UInt8 := leAll 1 [bitN (M.gone c)] ++ blocksB M c M.blk
def chipsB (M : Nd) (k : Nat) : List UInt8 := (List.range k).flatMap (chipB M)
def headB (M : Nd) : List UInt8 := leAll 4 [1312964935] ++ leAll 2 [M.mem, M.blk, M.pgs, M.siz]
def bodyB (M : Nd) : List UInt8 := headB M ++ chipsB M (M.mem + 1)
def dumpB (M : Nd) : List UInt8 := bodyB M ++ leAll 4 [(crcOf (bodyB M)).toNat]

theorem flat_succ {α : Type} (f : Nat → List α) (k : Nat) : (List.range (k + 1)).flatMap f = (List.range k).flatMap f ++ f k := by
  rw [List.range_succ, List.flatMap_append]; simp
theorem flat_le {α : Type} (f : Nat → List α) (n : Nat) (k : Nat) (h : ∀ i, i < k → (f i).length ≤ n) : ((List.range k).flatMap f).length ≤ k * n := by
  induction k with
  | zero => simp
  | succ k ih =>
    rw [flat_succ, List.length_append, Nat.add_mul, Nat.one_mul]
    exact Nat.add_le_add (ih fun i hi => h i (by omega)) (h k (by omega))
theorem pagesB_succ (M : Nd) (c b k : Nat) : pagesB M c b (k + 1) = pagesB M c b k ++ pageB (M.page c b k) := flat_succ _ _
theorem blocksB_succ (M : Nd) (c k : Nat) : blocksB M c (k + 1) = blocksB M c k ++ blockB M c k := flat_succ _ _
theorem chipsB_succ (M : Nd) (k : Nat) : chipsB M (k + 1) = chipsB M k ++ chipB M k := flat_succ _ _
theorem pageB_le {M : Nd} (h : M.Ok) (c b p : Nat) : (pageB (M.page c b p)).length ≤ 1089 := by
  unfold pageB
  have := h.siz
  rw [List.length_append, leAll_length]
  rcases h.page c b p with e | e
  · rw [e]; simp
  · rw [e]; simp; omega
theorem pagesB_le {M : Nd} (h : M.Ok) (c b k : Nat) (hk : k ≤ M.pgs) : (pagesB M c b k).length ≤ 34848 := by
  have h1 := flat_le (fun p => pageB (M.page c b p)) 1089 k (fun i _ => pageB_le h c b i)
  have h2 := h.pgs
  have : k * 1089 ≤ 32 * 1089 := Nat.mul_le_mul_right _ (by omega)
  exact Nat.le_trans h1 this
theorem blockB_le {M : Nd} (h : M.Ok) (c b : Nat) : (blockB M c b).length ≤ 34854 := by
  have := pagesB_le h c b M.pgs (Nat.le_refl _)
  unfold blockB
  simp only [List.length_append, leAll_length, List.length_cons, List.length_nil]
  omega
theorem blocksB_le {M : Nd} (h : M.Ok) (c k : Nat) (hk : k ≤ M.blk) : (blocksB M c k).length ≤ 2230656 := by
  have h1 := flat_le (blockB M c) 34854 k (fun i _ => blockB_le h c i)
  have h2 := h.blk
  have : k * 34854 ≤ 64 * 34854 := Nat.mul_le_mul_right _ (by omega)
  exact Nat.le_trans h1 this
theorem chipB_le {M : Nd} (h : M.Ok) (c : Nat) : (chipB M c).length ≤ 2230657 := by
  have := blocksB_le h c M.blk (Nat.le_refl _)
  unfold chipB
  simp only [List.length_append, leAll_length, List.length_cons, List.length_nil]
  omega
theorem chipsB_le {M : Nd} (h : M.Ok) (k : Nat) (hk : k ≤ M.mem + 1) : (chipsB M k).length ≤ 37921169 := by
  have h1 := flat_le (chipB M) 2230657 k (fun i _ => chipB_le h i)
  have h2 := h.mem
  have : k * 2230657 ≤ 17 * 2230657 := Nat.mul_le_mul_right _ (by omega)
  exact Nat.le_trans h1 this
theorem headB_length (M : Nd) : (headB M).length = 12 := by
  unfold headB
  simp only [List.length_append, leAll_length, List.length_cons, List.length_nil]
theorem bodyB_le {M : Nd} (h : M.Ok) : (bodyB M).length ≤ 38000000 := by
  have := chipsB_le h (M.mem + 1) (Nat.le_refl _)
  unfold bodyB
  rw [List.length_append, headB_length]
  omega

theorem Grow.belowP {p base : Nat} {v v' : Value} {l : List UInt8} {w w' : World} (h : Grow p v v' w w') (hw : Wr w p base v l) : Below p w w' :=
  (h.keeps hw).below (by have := hw.le; have := hw.lt; omega) fun b hb h' => by have := hw.lt; rcases h' with h' | h' <;> omega

/-- blocks apart from a writer's -/
def Away (K : List (Nat × Obj)) (p : Nat) (v : Value) : Prop := ∀ x ∈ K, x.1 ≠ p ∧ v.ownBlock ≠ some x.1
/-- a writer in the middle of its chain, beside blocks that are held -/
def WB (K : List (Nat × Obj)) (p base : Nat) (v0 : Value) (l : List UInt8) (w0 : World) : Asn := fun G w => Held K w ∧ ∃ v, Wr w p base v l ∧ G = (fun b => b = p ∨ v.ownBlock = some b) ∧ Grow p v0 v w0 w ∧ Away K p v
theorem Grow.alloc {p : Nat} {v v' : Value} {w w' : World} (h : Grow p v v' w w') (o : Obj) : Grow p v v' w (w'.alloc o) := ⟨h.only.alloc o, h.row⟩
theorem Grow.drew {p : Nat} {v v' : Value} {w w' : World} (h : Grow p v v' w w') : Grow p v v' w w'.drew := ⟨h.only.drew, h.row⟩
theorem Grow.new {p : Nat} {v : Value} {w w' : World} (h : Below w.heap.size w w') : Grow p v v w w' := ⟨Only.new h _, fun _ h => .inl h⟩
theorem WB.good {K : List (Nat × Obj)} {p base : Nat} {v0 : Value} {l : List UInt8} {w0 : World} : Good (Held K) (WB K p base v0 l w0) := by
  refine ⟨fun G w o h => ?_, fun G w h => h.1, fun G w b h hb => ?_⟩
  · obtain ⟨h1, v, h2, h3, h4, h5⟩ := h
    have hb := (Below.refl w.heap.size w).alloc (Nat.le_refl _) o
    exact ⟨h1.below hb, v, h2.below hb, h3, h4.alloc o, h5⟩
  · obtain ⟨h1, v, h2, rfl, h4⟩ := h
    rcases hb with rfl | hb
    · exact heap_lt h2.cell
    · exact (h2.own.lt b hb).2
theorem WB.next {K : List (Nat × Obj)} {p base : Nat} {l l' : List UInt8} {v0 v v' : Value} {w0 w w' : World} (hH : Held K w) (hW : Wr w p base v l) (hG : Grow p v0 v w0 w) (hK : Away K p v) (hW' : Wr w' p base v' l') (hg : Grow p v v' w w') :
    WB K p base v0 l' w0 (fun b => b = p ∨ v'.ownBlock = some b) w' := by
  refine ⟨hH.only hg.only fun x hx h => ?_, v', hW', rfl, hG.trans hg, fun x hx => ⟨(hK x hx).1, fun h => ?_⟩⟩
  · rcases h with h | h
    · exact (hK x hx).1 h
    · exact (hK x hx).2 h
  · rcases hg.row _ h with h' | h'
    · exact (hK x hx).2 h'
    · have := heap_lt (hH x hx); omega
/-- a block that a writer's method does not turn -/
theorem Grow.at {p : Nat} {v v' : Value} {w w' : World} (hg : Grow p v v' w w') {b : Nat} {o : Obj} (h : w.heap[b]? = some o) (h1 : b ≠ p) (h2 : v.ownBlock ≠ some b) : w'.heap[b]? = some o ∧ v'.ownBlock ≠ some b := by
  refine ⟨hg.only.at h fun e => e.elim h1 h2, fun e => ?_⟩
  rcases hg.row _ e with h' | h'
  · exact h2 h'
  · have := heap_lt h; omega
theorem Wr.away {w : World} {p base : Nat} {v : Value} {l : List UInt8} (h : Wr w p base v l) {b : Nat} (hb : w.heap.size ≤ b) : b ≠ p ∧ v.ownBlock ≠ some b :=
  ⟨fun e => by have := heap_lt h.cell; omega, fun e => by have := (h.own.lt b e).2; omega⟩

set_option maxHeartbeats 1000000 in
theorem bit_calls (x : Bool) (w : World) : Calls Try.prog 44 #[.bool x] w fun e w' => e = .returned (.int .u8 (bitN x : Int)) ∧ w = w' := by
  cases x
  all_goals
    go_enter Try.func44, Try.ntmps44
    go_wp2_with fail
    go_ret
    exact ⟨rfl, rfl⟩
set_option maxHeartbeats 1000000 in
theorem one_calls (x : Bool) (w : World) : Calls Try.prog 49 #[.bool x] w fun e w' => e = .returned (.int .u8 (bitN x : Int)) ∧ w = w' := by
  cases x
  all_goals
    go_enter Try.func49, Try.ntmps49
    go_wp2_with fail
    go_ret
    exact ⟨rfl, rfl⟩
theorem cmpN_some (a : Addr) (n c : Nat) (w : World) : (binOp BinOp.neq 31 (.slice (some a) n c) (.slice none 0 0)).run Try.prog w = .ok (.bool true) w := by kernel_rfl
theorem cmpN_none (w : World) : (binOp BinOp.neq 31 (.slice none 0 0) (.slice none 0 0)).run Try.prog w = .ok (.bool false) w := by kernel_rfl
end Go.Proofs.Ytphnjiokihbhnaa
