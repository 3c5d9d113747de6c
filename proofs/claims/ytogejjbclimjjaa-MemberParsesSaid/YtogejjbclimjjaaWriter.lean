/- cursor.Writer: what its methods lay. -/
--only r2
import Derived.Test.YtogejjbclimjjaaR1
import Derived.Test.YtogejjbclimjjaaOnly
namespace Go.Proofs.Ytogejjbclimjjaa
set_option linter.unusedVariables false
set_option linter.unusedSimpArgs false
open Go.RowKit

/-- a writer at block p that has laid these bytes; its row lies from base on -/
structure Wr (w : World) (p base : Nat) (v : Value) (l : List UInt8) : Prop where
  cell : w.heap[p]? = some (.cells #[v] 115 (0, 0))
  own : w.ownsRow base 5 1 v l.length (l.map u8v)
  lt : p < base
  le : base ≤ w.heap.size
/-- what one of its methods may turn: its own cell, its own row -/
structure Grow (p : Nat) (v v' : Value) (w w' : World) : Prop where
  only : Only (fun b => b = p ∨ v.ownBlock = some b) w w'
  row : ∀ b, v'.ownBlock = some b → v.ownBlock = some b ∨ w.heap.size ≤ b
theorem Grow.refl (p : Nat) (v : Value) (w : World) : Grow p v v w w := ⟨Only.refl _ _, fun _ h => .inl h⟩
theorem Grow.trans {p : Nat} {v v1 v2 : Value} {w w1 w2 : World} (h : Grow p v v1 w w1) (k : Grow p v1 v2 w1 w2) : Grow p v v2 w w2 :=
  ⟨h.only.trans k.only fun b hb e => e.elim .inl fun e => by
      rcases h.row b e with h' | h'
      · exact .inr h'
      · omega, fun b hb => by
      rcases k.row b hb with h' | h'
      · exact h.row b h'
      · exact .inr (Nat.le_trans h.only.size h')⟩
/-- what lies below the row's base, but for the writer itself, stays -/
theorem Grow.keeps {p base : Nat} {v v' : Value} {l : List UInt8} {w w' : World} (h : Grow p v v' w w') (hw : Wr w p base v l) : Only (fun b => b = p ∨ base ≤ b) w w' :=
  h.only.mono fun b _ e => e.imp_right fun e => (hw.own.lt b e).1
theorem Wr.slice {w : World} {p base : Nat} {v : Value} {l : List UInt8} (h : Wr w p base v l) : ∃ a k, v = .slice a l.length k := own_slice h.own
theorem Wr.empty {w : World} {p base : Nat} (h : w.heap[p]? = some (.cells #[.slice none 0 0] 115 (0, 0))) (hlt : p < base) (hle : base ≤ w.heap.size) : Wr w p base (.slice none 0 0) [] :=
  ⟨h, World.ownsRow_nil _ _ _ _, hlt, hle⟩
theorem Wr.only {S : Nat → Prop} {w w' : World} {p base : Nat} {v : Value} {l : List UInt8} (h : Wr w p base v l) (hO : Only S w w') (hp : ¬ S p) (hr : ∀ b, v.ownBlock = some b → ¬ S b) : Wr w' p base v l :=
  ⟨hO.at h.cell hp, own_only h.own hO hr, h.lt, Nat.le_trans h.le hO.size⟩
theorem Wr.below {w w' : World} {p base : Nat} {v : Value} {l : List UInt8} (h : Wr w p base v l) (hb : Below w.heap.size w w') : Wr w' p base v l :=
  h.only (Only.new hb fun _ => False) id fun _ _ => id
/-- bytes that a slice reads as, apart from the writer's cell and row -/
def ApartW (v2 : Value) (p : Nat) (v : Value) : Prop := ∀ b o n c, v2 = .slice (some ⟨b, o, none⟩) n c → b ≠ p ∧ v.ownBlock ≠ some b
theorem RV.apart {w w' : World} {v2 v v' : Value} {xs : List Value} {p : Nat} (h : RV w v2 xs) (ha : ApartW v2 p v) (hg : Grow p v v' w w') : RV w' v2 xs := by
  obtain ⟨a, cap, rfl, h1, h2, h0, h3⟩ := h
  refine ⟨a, cap, rfl, h1, h2, h0, h3.imp_right ?_⟩
  rintro ⟨b, o, rfl, hc⟩
  refine ⟨b, o, rfl, fun i hi => hg.only.cell (hc i hi) ?_⟩
  have := ha b o _ _ rfl
  exact fun e => e.elim this.1 this.2
theorem ApartW.step {w w' : World} {v2 v v' : Value} {p : Nat} (ha : ApartW v2 p v) (hg : Grow p v v' w w') (hlt : ∀ b o n c, v2 = .slice (some ⟨b, o, none⟩) n c → b < w.heap.size) : ApartW v2 p v' := fun b o n c e => by
  obtain ⟨h1, h2⟩ := ha b o n c e
  refine ⟨h1, fun h => ?_⟩
  rcases hg.row b h with h' | h'
  · exact h2 h'
  · have := hlt b o n c e; omega

/-- behind an append onto the writer's row, and the store of what came of it -/
theorem Wr.put {w wr w1 : World} {p base : Nat} {v v' : Value} {l m : List UInt8} (h : Wr wr p base v l) (hO : Below wr.heap.size wr w) (hown : w1.ownsRow base 5 1 v' (l ++ m).length ((l ++ m).map u8v)) (hg : w.grownBy w1 v.ownBlock)
    (hv' : ∀ b, v'.ownBlock = some b → v.ownBlock = some b ∨ wr.heap.size ≤ b) :
    Wr (w1.setCell ⟨p, 0, none⟩ v') p base v' (l ++ m) ∧ Grow p v v' wr (w1.setCell ⟨p, 0, none⟩ v') := by
  have hne : ∀ b, v.ownBlock = some b → b ≠ p := fun b hb => by have := (h.own.lt b hb).1; have := h.lt; omega
  have hO1 : Only (fun b => b = p ∨ v.ownBlock = some b) wr w1 := (Only.new hO _).trans (Only.of_grown hg) fun b _ e => .inr e
  have hlp := heap_lt h.cell
  have hc1 : w1.heap[p]? = some (.cells #[v] 115 (0, 0)) := by
    rw [hg.block p (Nat.lt_of_lt_of_le hlp hO.size) (fun e => hne p e.symm rfl), hO.block p hlp]; exact h.cell
  refine ⟨⟨?_, ownsRow_setCell_below hown (by exact h.lt) _, h.lt, by rw [size_set]; exact Nat.le_trans h.le hO1.size⟩, ⟨hO1.set _ _ fun _ => .inl rfl, hv'⟩⟩
  have := set_at (o := 0) hc1 v'
  rw [this]; rfl


theorem oneCell_one (x : Value) (h : x.oneCell' = true) : ∀ u ∈ [x], u.oneCell' = true := one_cell h
theorem RV.single {w : World} (x : Value) (t : TypeId) : RV (w.alloc (.cells #[x] t)) (.slice (some ⟨w.heap.size, 0, none⟩) 1 1) [x] :=
  RV.block (cs := #[x]) (heap_is rfl) rfl (Nat.le_refl _) (by unfold maxLen; omega) rfl

set_option maxRecDepth 100000 in
set_option maxHeartbeats 1000000 in
theorem wnum_calls (p base n u : Nat) (v : Value) (l : List UInt8) (w : World) (hw : Wr w p base v l) (hn : n ≤ 8) (hu : u < 18446744073709551616) (hl : l.length ≤ 1000000000) :
    Calls Try.prog 75 #[ptrV p, .int .u64 u, .int .i64 n] w fun e w' => e = .returned (ptrV p) ∧ ∃ v', Wr w' p base v' (l ++ leBytes n u) ∧ Grow p v v' w w' := by
  obtain ⟨i, hi, hz0, hz1, hz2⟩ := info_parts infoU8
  go_enter Try.func75, Try.ntmps75
  go_wp2_with fail
  go_loopw [1, 10] (fun x1 x10 wr => ∃ (k : Nat) (vv : Value), k ≤ n ∧ x10 = .int .i64 k ∧ x1 = .int .u64 ((u / 256 ^ k : Nat) : Int) ∧ Wr wr p base vv (l ++ leBytes k u) ∧ Grow p v vv w wr) (fun _ x10 _ => n - (intOf x10).toNat)
  case atStart => exact ⟨0, v, Nat.zero_le _, rfl, by simp, by simpa [leBytes] using hw, Grow.refl _ _ _⟩
  case round =>
    obtain ⟨k, vv, hk, rfl, rfl, hwr, hg⟩ := hrel
    obtain ⟨L, hL⟩ : ∃ L, L = l ++ leBytes k u := ⟨_, rfl⟩
    have hll : L.length = l.length + k := by rw [hL]; simp [leBytes_length]
    rw [← hL] at hwr
    have HLL := Lib.hid hL
    have HL := Lib.hid hll
    clear hL hll
    obtain ⟨av, kv, rfl⟩ := hwr.slice
    have hP := hwr.cell
    (have hP_0 := cells_at hP 0 _ rfl)
    by_cases hlt : k < n
    · obtain ⟨q, hq⟩ : ∃ q, q = u / 256 ^ k := ⟨_, rfl⟩
      have hqv : q ≤ u := by rw [hq]; exact Nat.div_le_self _ _
      rw [← hq]
      have hnx : leBytes (k + 1) u = leBytes k u ++ [UInt8.ofNat (q % 256)] := by rw [leBytes_succ, hq]
      have hdv : u / 256 ^ (k + 1) = q / 256 := by rw [hq, Nat.div_div_eq_div_mul, Nat.pow_succ]
      have hbv : u8v (UInt8.ofNat (q % 256)) = .int .u8 ((q : Int) % 256) := by
        show Value.int .u8 ((UInt8.ofNat (q % 256)).toNat : Int) = _
        rw [u8_mod]; simp
      have HN := Lib.hid hnx
      have HD := Lib.hid hdv
      have HB := Lib.hid hbv
      clear hnx hdv hbv hq
      have hown := hwr.own
      have hsz := hwr.le
      go_wp2_with (at_builtin; (refine wpList_append_row rfl _ _ 23 rfl base 5 i (.int .u8 0) 1 Try.underlying23 hi hz0 hz1 hz2 rfl (.slice av L.length kv) _ _ rfl (hown.alloc _) (.slice (some ⟨wr.heap.size, 0, none⟩) 1 1) [.int .u8 ((q : Int) % 256)] rfl (RV.single _ _) (one_cell rfl) ?c3 ?c4 ?c5 ?_))
      case c3 => unfold maxLen; rw [HL.out]; simp; omega
      case c4 => rw [HL.out]; simp; omega
      case c5 => simp; omega
      intro v' w1 hown' hgrow hrow
      obtain ⟨av', kv', rfl⟩ := own_slice hown'
      have hw1 : w1.heap[p]? = some (.cells #[.slice av L.length kv] 115 (0, 0)) := by
        rw [hgrow.block p (by have := heap_lt hP; simp; omega) (fun e => by have := (hown.lt p e.symm).1; have := hwr.lt; omega)]; exact heap_old _ hP
      have hput := Wr.put (m := [UInt8.ofNat (q % 256)]) hwr ((Below.refl wr.heap.size wr).alloc (Nat.le_refl _) (.cells #[.int .u8 ((q : Int) % 256)] 5)) (by
        have e : (L ++ [UInt8.ofNat (q % 256)]).map u8v = L.map u8v ++ [.int .u8 ((q : Int) % 256)] := by rw [List.map_append, ← HB.out]; rfl
        rw [e]; simpa using hown') hgrow (fun b hb => (hrow b hb).imp_right fun h => by (try simp at h); omega)
      have HPUT := Lib.hid hput
      have hw1_0 := cells_at hw1 0 _ rfl
      have hw1_f := froz_at hw1 0
      clear hput hown hown' hgrow hrow hP hP_0 hw1
      go_wp2_with fail
      go_roundw
      case rel => exact ⟨k + 1, _, by omega, by go_num, by rw [HD.out]; go_num, by rw [HN.out, ← List.append_assoc, ← HLL.out]; exact HPUT.out.1, hg.trans HPUT.out.2⟩
      case measure => simp [intOf]; omega
    · obtain rfl : k = n := by omega
      go_wp2_with fail
      go_ret
      exact ⟨rfl, _, HLL.out ▸ hwr, hg⟩
/-- numbers, one behind the other -/
def leAll (b : Nat) (ns : List Nat) : List UInt8 := ns.flatMap (leBytes b)
theorem leAll_length (b : Nat) (ns : List Nat) : (leAll b ns).length = b * ns.length := by
  induction ns with
  | nil => simp [leAll]
  | cons n ns ih => simp only [leAll, List.flatMap_cons, List.length_append, leBytes_length, List.length_cons] at ih ⊢; rw [ih, Nat.mul_add, Nat.mul_one, Nat.add_comm]
theorem leAll_snoc (b : Nat) (ns : List Nat) (k : Nat) (h : k < ns.length) : leAll b (ns.take (k + 1)) = leAll b (ns.take k) ++ leBytes b ns[k] := by
  unfold leAll; rw [List.take_succ_eq_append_getElem h, List.flatMap_append]; simp
theorem leAll_le (b : Nat) (ns : List Nat) (k : Nat) : (leAll b (ns.take k)).length ≤ b * ns.length := by
  rw [leAll_length]; exact Nat.mul_le_mul_left _ (by rw [List.length_take]; omega)
theorem RV.lt {w : World} {v2 : Value} {xs : List Value} (h : RV w v2 xs) (hne : 0 < xs.length) : ∀ b o n c, v2 = .slice (some ⟨b, o, none⟩) n c → b < w.heap.size := by
  obtain ⟨b', o', cap, rfl, _, _, hc⟩ := h.out hne
  intro b o n c e
  simp only [Value.slice.injEq, Option.some.injEq, Addr.mk.injEq] at e
  obtain ⟨⟨rfl, _⟩, _⟩ := e
  exact cell_lt (hc 0 hne)

set_option maxRecDepth 100000 in
set_option maxHeartbeats 400000 in
theorem wU8_calls (p base : Nat) (v v2 : Value) (l : List UInt8) (ns : List Nat) (w : World) (hw : Wr w p base v l) (h2 : RV w v2 (ns.map fun (n : Nat) => Value.int .u8 (n : Int))) (hap : ApartW v2 p v) (hns : ∀ n ∈ ns, n < 256) (hl : l.length ≤ 100000000) (hn : ns.length ≤ 1000000) :
    Calls Try.prog 54 #[ptrV p, v2] w fun e w' => e = .returned (ptrV p) ∧ ∃ v', Wr w' p base v' (l ++ leAll 1 ns) ∧ Grow p v v' w w' := by
  obtain ⟨a2, c2, rfl, hlc, hm⟩ := h2.form
  simp only [List.length_map] at hlc h2 hap ⊢
  unfold maxLen at hm
  have HNS := Lib.hid hns
  clear hns
  go_enter Try.func54, Try.ntmps54
  go_wp2_with fail
  go_loopw [9] (fun x9 wr => ∃ (k : Nat) (vv : Value), k ≤ ns.length ∧ x9 = .int .i64 k ∧ Wr wr p base vv (l ++ leAll 1 (ns.take k)) ∧ Grow p v vv w wr ∧ RV wr (.slice a2 ns.length c2) (ns.map fun (n : Nat) => Value.int .u8 (n : Int)) ∧ ApartW (.slice a2 ns.length c2) p vv) (fun x9 _ => ns.length - (intOf x9).toNat)
  case atStart => exact ⟨0, v, Nat.zero_le _, rfl, by simpa [leAll] using hw, Grow.refl _ _ _, h2, hap⟩
  case round =>
    clear h2 hap hw
    obtain ⟨k, vv, hk, rfl, hwr, hg, h2, hap⟩ := hrel
    by_cases hlt : k < ns.length
    · have hlL := leAll_le 1 ns k
      obtain ⟨L, hL⟩ : ∃ L, L = l ++ leAll 1 (ns.take k) := ⟨_, rfl⟩
      have hLl : L.length ≤ 1000000000 := by rw [hL, List.length_append]; omega
      rw [← hL] at hwr
      have HLL := Lib.hid hL
      have HSN := Lib.hid (leAll_snoc 1 ns k hlt)
      clear hL
      obtain ⟨b2, o2, cc2, ee, _, _, hc⟩ := h2.out (by simp; omega)
      simp only [List.length_map, Value.slice.injEq] at ee
      obtain ⟨rfl, -, rfl⟩ := ee
      have hlt2 := h2.lt (by simp; omega)
      have hck := hc k (by simpa using hlt)
      simp only [List.getElem_map] at hck
      have hbd := HNS.out ns[k] (List.getElem_mem _)
      generalize ns[k] = nk at hck hbd HSN
      have HC := Lib.hid hlt2
      have HAP := Lib.hid hap
      clear hc hlt2 hap hlL
      go_wp2_with (go_at_call 75; refine (wnum_calls p base 1 nk vv L wr hwr (by omega) (by omega) hLl).mono ?_)
      rintro e w1 ⟨rfl, v', hwr', hg'⟩
      have h2' := RV.apart h2 HAP.out hg'
      have hap' := ApartW.step HAP.out hg' HC.out
      have HAP' := Lib.hid hap'
      clear hap' h2 hwr hck
      go_wp2_with fail
      go_roundw
      case rel => exact ⟨k + 1, v', by omega, by go_num, by rw [HSN.out, ← List.append_assoc, ← HLL.out]; exact hwr', hg.trans hg', h2', HAP'.out⟩
      case measure => simp [intOf]; omega
    · obtain rfl : k = ns.length := by omega
      rw [List.take_length] at hwr
      clear hap
      go_wp2_with fail
      go_ret
      exact ⟨rfl, vv, hwr, hg⟩

set_option maxRecDepth 100000 in
set_option maxHeartbeats 400000 in
theorem wU16_calls (p base : Nat) (v v2 : Value) (l : List UInt8) (ns : List Nat) (w : World) (hw : Wr w p base v l) (h2 : RV w v2 (ns.map fun (n : Nat) => Value.int .u16 (n : Int))) (hap : ApartW v2 p v) (hns : ∀ n ∈ ns, n < 65536) (hl : l.length ≤ 100000000) (hn : ns.length ≤ 1000000) :
    Calls Try.prog 55 #[ptrV p, v2] w fun e w' => e = .returned (ptrV p) ∧ ∃ v', Wr w' p base v' (l ++ leAll 2 ns) ∧ Grow p v v' w w' := by
  obtain ⟨a2, c2, rfl, hlc, hm⟩ := h2.form
  simp only [List.length_map] at hlc h2 hap ⊢
  unfold maxLen at hm
  have HNS := Lib.hid hns
  clear hns
  go_enter Try.func55, Try.ntmps55
  go_wp2_with fail
  go_loopw [9] (fun x9 wr => ∃ (k : Nat) (vv : Value), k ≤ ns.length ∧ x9 = .int .i64 k ∧ Wr wr p base vv (l ++ leAll 2 (ns.take k)) ∧ Grow p v vv w wr ∧ RV wr (.slice a2 ns.length c2) (ns.map fun (n : Nat) => Value.int .u16 (n : Int)) ∧ ApartW (.slice a2 ns.length c2) p vv) (fun x9 _ => ns.length - (intOf x9).toNat)
  case atStart => exact ⟨0, v, Nat.zero_le _, rfl, by simpa [leAll] using hw, Grow.refl _ _ _, h2, hap⟩
  case round =>
    clear h2 hap hw
    obtain ⟨k, vv, hk, rfl, hwr, hg, h2, hap⟩ := hrel
    by_cases hlt : k < ns.length
    · have hlL := leAll_le 2 ns k
      obtain ⟨L, hL⟩ : ∃ L, L = l ++ leAll 2 (ns.take k) := ⟨_, rfl⟩
      have hLl : L.length ≤ 1000000000 := by rw [hL, List.length_append]; omega
      rw [← hL] at hwr
      have HLL := Lib.hid hL
      have HSN := Lib.hid (leAll_snoc 2 ns k hlt)
      clear hL
      obtain ⟨b2, o2, cc2, ee, _, _, hc⟩ := h2.out (by simp; omega)
      simp only [List.length_map, Value.slice.injEq] at ee
      obtain ⟨rfl, -, rfl⟩ := ee
      have hlt2 := h2.lt (by simp; omega)
      have hck := hc k (by simpa using hlt)
      simp only [List.getElem_map] at hck
      have hbd := HNS.out ns[k] (List.getElem_mem _)
      generalize ns[k] = nk at hck hbd HSN
      have HC := Lib.hid hlt2
      have HAP := Lib.hid hap
      clear hc hlt2 hap hlL
      go_wp2_with (go_at_call 75; refine (wnum_calls p base 2 nk vv L wr hwr (by omega) (by omega) hLl).mono ?_)
      rintro e w1 ⟨rfl, v', hwr', hg'⟩
      have h2' := RV.apart h2 HAP.out hg'
      have hap' := ApartW.step HAP.out hg' HC.out
      have HAP' := Lib.hid hap'
      clear hap' h2 hwr hck
      go_wp2_with fail
      go_roundw
      case rel => exact ⟨k + 1, v', by omega, by go_num, by rw [HSN.out, ← List.append_assoc, ← HLL.out]; exact hwr', hg.trans hg', h2', HAP'.out⟩
      case measure => simp [intOf]; omega
    · obtain rfl : k = ns.length := by omega
      rw [List.take_length] at hwr
      clear hap
      go_wp2_with fail
      go_ret
      exact ⟨rfl, vv, hwr, hg⟩

set_option maxRecDepth 100000 in
set_option maxHeartbeats 400000 in
theorem wU32_calls (p base : Nat) (v v2 : Value) (l : List UInt8) (ns : List Nat) (w : World) (hw : Wr w p base v l) (h2 : RV w v2 (ns.map fun (n : Nat) => Value.int .u32 (n : Int))) (hap : ApartW v2 p v) (hns : ∀ n ∈ ns, n < 4294967296) (hl : l.length ≤ 100000000) (hn : ns.length ≤ 1000000) :
    Calls Try.prog 53 #[ptrV p, v2] w fun e w' => e = .returned (ptrV p) ∧ ∃ v', Wr w' p base v' (l ++ leAll 4 ns) ∧ Grow p v v' w w' := by
  obtain ⟨a2, c2, rfl, hlc, hm⟩ := h2.form
  simp only [List.length_map] at hlc h2 hap ⊢
  unfold maxLen at hm
  have HNS := Lib.hid hns
  clear hns
  go_enter Try.func53, Try.ntmps53
  go_wp2_with fail
  go_loopw [9] (fun x9 wr => ∃ (k : Nat) (vv : Value), k ≤ ns.length ∧ x9 = .int .i64 k ∧ Wr wr p base vv (l ++ leAll 4 (ns.take k)) ∧ Grow p v vv w wr ∧ RV wr (.slice a2 ns.length c2) (ns.map fun (n : Nat) => Value.int .u32 (n : Int)) ∧ ApartW (.slice a2 ns.length c2) p vv) (fun x9 _ => ns.length - (intOf x9).toNat)
  case atStart => exact ⟨0, v, Nat.zero_le _, rfl, by simpa [leAll] using hw, Grow.refl _ _ _, h2, hap⟩
  case round =>
    clear h2 hap hw
    obtain ⟨k, vv, hk, rfl, hwr, hg, h2, hap⟩ := hrel
    by_cases hlt : k < ns.length
    · have hlL := leAll_le 4 ns k
      obtain ⟨L, hL⟩ : ∃ L, L = l ++ leAll 4 (ns.take k) := ⟨_, rfl⟩
      have hLl : L.length ≤ 1000000000 := by rw [hL, List.length_append]; omega
      rw [← hL] at hwr
      have HLL := Lib.hid hL
      have HSN := Lib.hid (leAll_snoc 4 ns k hlt)
      clear hL
      obtain ⟨b2, o2, cc2, ee, _, _, hc⟩ := h2.out (by simp; omega)
      simp only [List.length_map, Value.slice.injEq] at ee
      obtain ⟨rfl, -, rfl⟩ := ee
      have hlt2 := h2.lt (by simp; omega)
      have hck := hc k (by simpa using hlt)
      simp only [List.getElem_map] at hck
      have hbd := HNS.out ns[k] (List.getElem_mem _)
      generalize ns[k] = nk at hck hbd HSN
      have HC := Lib.hid hlt2
      have HAP := Lib.hid hap
      clear hc hlt2 hap hlL
      go_wp2_with (go_at_call 75; refine (wnum_calls p base 4 nk vv L wr hwr (by omega) (by omega) hLl).mono ?_)
      rintro e w1 ⟨rfl, v', hwr', hg'⟩
      have h2' := RV.apart h2 HAP.out hg'
      have hap' := ApartW.step HAP.out hg' HC.out
      have HAP' := Lib.hid hap'
      clear hap' h2 hwr hck
      go_wp2_with fail
      go_roundw
      case rel => exact ⟨k + 1, v', by omega, by go_num, by rw [HSN.out, ← List.append_assoc, ← HLL.out]; exact hwr', hg.trans hg', h2', HAP'.out⟩
      case measure => simp [intOf]; omega
    · obtain rfl : k = ns.length := by omega
      rw [List.take_length] at hwr
      clear hap
      go_wp2_with fail
      go_ret
      exact ⟨rfl, vv, hwr, hg⟩

set_option maxRecDepth 100000 in
set_option maxHeartbeats 400000 in
theorem wRaw_calls (p base : Nat) (v v2 : Value) (l m : List UInt8) (w : World) (hw : Wr w p base v l) (h2 : RB w v2 m) (hl : l.length ≤ 100000000) (hm : m.length ≤ 100000000) :
    Calls Try.prog 65 #[ptrV p, v2] w fun e w' => e = .returned (ptrV p) ∧ ∃ v', Wr w' p base v' (l ++ m) ∧ Grow p v v' w w' := by
  obtain ⟨i, hi, hz0, hz1, hz2⟩ := info_parts infoU8
  obtain ⟨av, kv, rfl⟩ := hw.slice
  have hP := hw.cell
  have hown := hw.own
  have hsz := hw.le
  obtain ⟨a2, c2, e2, _, _⟩ := h2.form
  have hy : RV w v2 (m.map u8v) := h2
  subst e2
  have hml : (m.map u8v).length = m.length := by simp
  have HML := Lib.hid hml
  clear hml
  (have hP_0 := cells_at hP 0 _ rfl)
  go_enter Try.func65, Try.ntmps65
  go_wp2_with (at_builtin; (refine wpList_append_row rfl _ _ 23 rfl base 5 i (.int .u8 0) 1 Try.underlying23 hi hz0 hz1 hz2 rfl (.slice av l.length kv) _ _ rfl hown (.slice a2 m.length c2) (m.map u8v) rfl hy (oneCell_u8 m) ?c3 ?c4 hsz ?_))
  case c3 => unfold maxLen; rw [HML.out]; omega
  case c4 => rw [HML.out]; omega
  intro v' w1 hown' hgrow hrow
  obtain ⟨av', kv', rfl⟩ := own_slice hown'
  have hw1 : w1.heap[p]? = some (.cells #[.slice av l.length kv] 115 (0, 0)) := by
    rw [hgrow.block p (heap_lt hP) (fun e => by have := (hown.lt p e.symm).1; have := hw.lt; omega)]; exact hP
  have hput := Wr.put (m := m) hw (Below.refl _ _) (by rw [List.map_append, List.length_append]; exact hown') hgrow hrow
  have HPUT := Lib.hid hput
  have hw1_0 := cells_at hw1 0 _ rfl
  have hw1_f := froz_at hw1 0
  clear hput hown hown' hgrow hrow hP hP_0 hw1 hy h2 hw
  go_wp2_with fail
  go_ret
  exact ⟨rfl, _, HPUT.out⟩

/-- what length a writer's cell tells -/
def lenAt (w : World) (p : Nat) : Nat := match w.heap[p]? with
  | some (.cells cs _ _) => match cs[0]? with
    | some (Value.slice _ k _) => k
    | _ => 0
  | _ => 0
theorem Wr.lenAt {w : World} {p base : Nat} {v : Value} {l : List UInt8} (h : Wr w p base v l) : lenAt w p = l.length := by
  obtain ⟨a, k, rfl⟩ := h.slice
  unfold Ytogejjbclimjjaa.lenAt
  rw [h.cell]; rfl

set_option maxRecDepth 100000 in
set_option maxHeartbeats 400000 in
theorem wBytes_calls (p base : Nat) (v : Value) (l : List UInt8) (w : World) (hw : Wr w p base v l) (hl : l.length ≤ 100000000) :
    Calls Try.prog 57 #[ptrV p] w fun e w' => ∃ x, e = .returned x ∧ w'.ownsRow w.heap.size 5 1 x l.length (l.map u8v) ∧ Below w.heap.size w w' := by
  obtain ⟨i, hi, hz0, hz1, hz2⟩ := info_parts infoU8
  have hy : RV w v (l.map u8v) := RV.own hw.own
  obtain ⟨av, kv, rfl⟩ := hw.slice
  have hP := hw.cell
  have hml : (l.map u8v).length = l.length := by simp
  have HML := Lib.hid hml
  clear hml
  (have hP_0 := cells_at hP 0 _ rfl)
  go_enter Try.func57, Try.ntmps57
  go_wp2_with (at_builtin; (refine wpList_append_row rfl _ _ 23 rfl w.heap.size 5 i (.int .u8 0) 1 Try.underlying23 hi hz0 hz1 hz2 rfl (.slice none 0 0) 0 [] rfl (World.ownsRow_nil _ _ _ _) (.slice av l.length kv) (l.map u8v) rfl hy (oneCell_u8 l) ?c3 ?c4 (Nat.le_refl _) ?_))
  case c3 => unfold maxLen; rw [HML.out]; omega
  case c4 => rw [HML.out]; omega
  intro v' w1 hown' hgrow hrow
  have hb := (Below.refl w.heap.size w).grown hgrow (Nat.le_refl _) (fun _ h => by cases h)
  have HO := Lib.hid hown'
  clear hown' hgrow hrow hP hP_0 hy hw
  go_wp2_with fail
  go_ret
  exact ⟨_, rfl, by have := HO.out; simpa using this, hb⟩

theorem ApartW.new {w : World} {p base n c : Nat} {v : Value} {l : List UInt8} (h : Wr w p base v l) : ApartW (.slice (some ⟨w.heap.size, 0, none⟩) n c) p v := fun b o n' c' e => by
  simp only [Value.slice.injEq, Option.some.injEq, Addr.mk.injEq] at e
  obtain ⟨⟨rfl, _⟩, _⟩ := e
  have := heap_lt h.cell
  exact ⟨by omega, fun h' => by have := (h.own.lt _ h').2; omega⟩
theorem ApartW.size {b o n c n' c' p : Nat} {v : Value} (h : ApartW (.slice (some ⟨b, o, none⟩) n c) p v) : ApartW (.slice (some ⟨b, o, none⟩) n' c') p v := fun b1 o1 n1 c1 e => by
  simp only [Value.slice.injEq] at e
  obtain ⟨e, _⟩ := e
  exact h b1 o1 n c (by rw [e])
/-- out of a hard operation that made a block -/
theorem out_alloc {R : Exit → Act → World → Prop} {a : Act} {w : World} {o : Obj} (h : ∀ w', w'.heap[w.heap.size]? = some o → Below w.heap.size w w' → w'.heap.size = w.heap.size + 1 → R .normal a w') : R .normal a (w.alloc o) :=
  h _ (heap_new w o) ((Below.refl _ _).alloc (Nat.le_refl _) o) (by simp)
theorem RV.cells {w : World} {b t n : Nat} {cs : Array Value} {fz : Nat × Nat} {xs : List Value} (h : w.heap[b]? = some (.cells cs t fz)) (hn : n = xs.length) (hm : n ≤ 1000000) (he : cs.toList = xs) : RV w (.slice (some ⟨b, 0, none⟩) n n) xs :=
  RV.block h hn (Nat.le_refl _) (by unfold maxLen; omega) (by rw [he, hn]; exact List.take_of_length_le (Nat.le_refl _))
end Go.Proofs.Ytogejjbclimjjaa
