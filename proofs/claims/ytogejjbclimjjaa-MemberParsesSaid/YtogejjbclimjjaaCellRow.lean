/- Rows of cells: of a block that may be written; of an append's own. -/
--only r2
import Derived.Test.YtogejjbclimjjaaOnly
import Derived.Test.YtogejjbclimjjaaR1
import Derived.Test.YtogejjbclimjjaaMix
namespace Go.Proofs.Ytogejjbclimjjaa
set_option linter.unusedVariables false
set_option linter.unusedSimpArgs false
open Go.RowKit

def upd1 {α : Type} (f : Nat → α) (c : Nat) (v : α) : Nat → α := fun x => if x = c then v else f x
def upd2 {α : Type} (f : Nat → Nat → α) (c b : Nat) (v : α) : Nat → Nat → α := fun x y => if x = c ∧ y = b then v else f x y
def upd3 {α : Type} (f : Nat → Nat → Nat → α) (c b p : Nat) (v : α) : Nat → Nat → Nat → α := fun x y z => if x = c ∧ y = b ∧ z = p then v else f x y z
theorem upd1_same {α : Type} (f : Nat → α) (c : Nat) (v : α) : upd1 f c v c = v := if_pos rfl
theorem upd2_same {α : Type} (f : Nat → Nat → α) (c b : Nat) (v : α) : upd2 f c b v c b = v := if_pos ⟨rfl, rfl⟩
theorem upd3_same {α : Type} (f : Nat → Nat → Nat → α) (c b p : Nat) (v : α) : upd3 f c b p v c b p = v := if_pos ⟨rfl, rfl, rfl⟩

theorem upd1_other {α : Type} {f : Nat → α} {c x : Nat} {v : α} (h : x ≠ c) : upd1 f c v x = f x := if_neg h
/-- a block that may be written, whose first cells are these; it holds no byte -/
def Row (w : World) (b n : Nat) (f : Nat → Value) : Prop := ∃ cs t, w.heap[b]? = some (.cells cs t (0, 0)) ∧ (∀ o, o < n → cs[o]? = some (f o)) ∧ ∀ (o : Nat) (c : UInt8), cs[o]? ≠ some (u8v c)
theorem Row.cell {w : World} {b n o : Nat} {f : Nat → Value} (h : Row w b n f) (ho : o < n) : w.cell? ⟨b, o, none⟩ = some (f o) := by
  obtain ⟨cs, t, hh, hf, _⟩ := h; exact cells_at hh o _ (hf o ho)
theorem Row.froz {w : World} {b n : Nat} {f : Nat → Value} (h : Row w b n f) (o : Nat) : w.frozen? ⟨b, o, none⟩ = false := by
  obtain ⟨cs, t, hh, _, _⟩ := h; exact froz_at hh o
theorem Row.noByte {w : World} {b n : Nat} {f : Nat → Value} (h : Row w b n f) : NoByte w b := by
  obtain ⟨cs, t, hh, _, hn⟩ := h; exact noByte_of hh hn
theorem Row.lt {w : World} {b n : Nat} {f : Nat → Value} (h : Row w b n f) : b < w.heap.size := by
  obtain ⟨cs, t, hh, _, _⟩ := h; exact heap_lt hh
theorem Row.only {S : Nat → Prop} {w w' : World} {b n : Nat} {f : Nat → Value} (h : Row w b n f) (hO : Only S w w') (hn : ¬ S b) : Row w' b n f := by
  obtain ⟨cs, t, hh, h1, h2⟩ := h; exact ⟨cs, t, hO.at hh hn, h1, h2⟩
theorem Row.below {w w' : World} {b n : Nat} {f : Nat → Value} (h : Row w b n f) (hb : Below w.heap.size w w') : Row w' b n f := by
  obtain ⟨cs, t, hh, h1, h2⟩ := h; exact ⟨cs, t, heap_keep hb hh, h1, h2⟩
theorem Row.congr {w : World} {b n : Nat} {f g : Nat → Value} (h : Row w b n f) (hg : ∀ o, o < n → f o = g o) : Row w b n g := by
  obtain ⟨cs, t, hh, h1, h2⟩ := h; exact ⟨cs, t, hh, fun o ho => by rw [h1 o ho, hg o ho], h2⟩
theorem Row.set {w : World} {b n o : Nat} {f : Nat → Value} (h : Row w b n f) (u : Value) (ho : o < n) (hu : NB u) : Row (w.setCell ⟨b, o, none⟩ u) b n (fun i => if i = o then u else f i) := by
  obtain ⟨cs, t, hh, h1, h2⟩ := h
  have hlt : o < cs.size := by
    have := h1 o ho
    exact (Array.getElem?_eq_some_iff.mp this).1
  refine ⟨_, t, set_at hh u, fun i hi => ?_, fun i c hc => ?_⟩
  · rw [Array.getElem?_setIfInBounds]
    by_cases e : o = i
    · subst e; simp [hlt]
    · rw [if_neg e]; simp only [if_neg (fun h : i = o => e h.symm)]; exact h1 i hi
  · rw [Array.getElem?_setIfInBounds] at hc
    by_cases e : o = i
    · subst e; simp only [if_true, hlt] at hc; exact hu c (by simpa using hc)
    · rw [if_neg e] at hc; exact h2 i c hc
theorem Row.other {w : World} {b n : Nat} {f : Nat → Value} (h : Row w b n f) (a : Addr) (u : Value) (hb : b ≠ a.block) : Row (w.setCell a u) b n f :=
  h.only (Only.of_set w a u) hb
theorem Row.mk' {w : World} {b n t : Nat} {cs : Array Value} {f : Nat → Value} (h : w.heap[b]? = some (.cells cs t (0, 0))) (hf : ∀ o, o < n → cs[o]? = some (f o)) (hn : ∀ x ∈ cs, NB x) : Row w b n f :=
  ⟨cs, t, h, hf, fun o c hc => by
    obtain ⟨hlt, he⟩ := Array.getElem?_eq_some_iff.mp hc
    exact hn _ (Array.getElem_mem hlt) c he⟩
/-- the first cells of a block are these -/
def Cells (w : World) (b n : Nat) (f : Nat → Value) : Prop := ∀ o, o < n → w.cell? ⟨b, o, none⟩ = some (f o)
theorem Cells.cell {w : World} {b n o : Nat} {f : Nat → Value} (h : Cells w b n f) (ho : o < n) : w.cell? ⟨b, o, none⟩ = some (f o) := h o ho
theorem Cells.only {S : Nat → Prop} {w w' : World} {b n : Nat} {f : Nat → Value} (h : Cells w b n f) (hO : Only S w w') (hn : ¬ S b) : Cells w' b n f := fun o ho => hO.cell (h o ho) hn
theorem nb_ptr (a : Option Addr) : NB (.pointer a) := fun _ => by simp

/-- a row's cells, spare ones too, are no bytes -/
def RowNB (w : World) (v : Value) : Prop := ∀ g cs t fz, v.ownBlock = some g → w.heap[g]? = some (.cells cs t fz) → ∀ x ∈ cs.toList, NB x
theorem RowNB.nil (w : World) : RowNB w (.slice none 0 0) := fun g cs t fz h => by simp [Value.ownBlock] at h
theorem RowNB.below {w w' : World} {v : Value} {base e size n : Nat} {xs : List Value} (hown : w.ownsRow base e size v n xs) (h : RowNB w v) {row : Option Nat} (hg : w.grownBy w' row) (hne : v.ownBlock = none ∨ v.ownBlock ≠ row) : RowNB w' v := by
  intro g cs t fz hv hh
  have hlt := (hown.lt g hv).2
  rw [hg.block g hlt (by rw [hv] at hne; simpa using hne)] at hh
  exact h g cs t fz hv hh
theorem RowNB.alloc {w : World} {v : Value} {base e size n : Nat} {xs : List Value} (hown : w.ownsRow base e size v n xs) (h : RowNB w v) (o : Obj) : RowNB (w.alloc o) v := RowNB.below hown h (World.grownBy_alloc w o none) (by cases hv : v.ownBlock <;> simp)
theorem RowNB.only {S : Nat → Prop} {w w' : World} {v : Value} {base e size n : Nat} {xs : List Value} (hown : w.ownsRow base e size v n xs) (h : RowNB w v) (hO : Only S w w') (hS : ∀ g, v.ownBlock = some g → ¬ S g) : RowNB w' v := by
  intro g cs t fz hv hh
  have hlt := (hown.lt g hv).2
  obtain ⟨o, ho⟩ : ∃ o, w.heap[g]? = some o := ⟨_, Array.getElem?_eq_getElem hlt⟩
  have := hO.at ho (hS g hv)
  rw [this] at hh
  cases hh
  exact h g cs t fz hv ho

theorem zero_nb {z : Array Value} (hz : ∀ u ∈ z.toList, NB u) (n : Nat) : ∀ u ∈ (Builtin.zeroCells z n).toList, NB u := fun u hu => by
  simp only [Builtin.zeroCells] at hu
  have := Array.mem_toList_iff.mp hu
  simp at this
  obtain ⟨i, hi, rfl⟩ := this
  have hz0 : 0 < z.size := Nat.pos_of_ne_zero fun e => by rw [e] at hi; simp at hi
  have hlt : i % z.size < z.size := Nat.mod_lt _ hz0
  rw [getElem!_pos z (i % z.size) hlt]
  exact hz _ (by simp)

theorem run_append_nb {P : Program} (w : World) (base : Nat) (t ty e : TypeId) (i : TypeInfo) (z : Value) (size bytes : Nat) (ht : P.underlying t = some (.slice e)) (hi : P.info? e = some i) (hz : i.zero = some z)
    (hsize : i.size = size) (hby : i.bytes = bytes) (hzs : z.cells.size = size) (hsz : 0 < size)
    (v : Value) (n : Nat) (xs : List Value) (hown : w.ownsRow base e size v n xs)
    (a : Addr) (m c : Nat) (news : List Value) (hl : news.length = m * size) (hnews : ∀ j u, news[j]? = some u → w.cell? (a.add j) = some u) (h1 : ∀ u ∈ news, u.oneCell' = true)
    (h63 : n + m ≤ maxLen) (hbytes : (n + m) * bytes ≤ 140737488355328) (hbase : base ≤ w.heap.size) (hnb : RowNB w v) (hzn : ∀ u ∈ z.cells.toList, NB u) (hnn : ∀ u ∈ news, NB u) :
    ∃ v' w', (Builtin.append_ #[t, t] ty #[v, .slice (some a) m c]).run P w = .ok v' w' ∧ w'.ownsRow base e size v' (n + m) (xs ++ news) ∧ w.grownBy w' v.ownBlock ∧ RowNB w' v' ∧ (∀ g, v'.ownBlock = some g → v.ownBlock = some g ∨ w.heap.size ≤ g) := by
  obtain ⟨v', w', hr, h2, h3, h4⟩ := run_append_own (P := P) w base t ty e i z size bytes ht hi hz hsize hby hzs hsz v n xs hown a m c news hl hnews h1 h63 hbytes hbase
  refine ⟨v', w', hr, h2, h3, ?_⟩
  subst hsize
  subst hby
  have hsmall : n + m ≤ 9223372036854775807 := by simp only [maxLen] at h63; omega
  rcases hown.2 with ⟨rfl, rfl⟩ | ⟨g, cap, cur, rfl, hbg, hg, hnc, hcm, hcs, htake⟩
  · by_cases hm : m = 0
    · rw [h4.mpr ⟨rfl, hm⟩]; exact ⟨RowNB.nil _, fun g h => by simp [Value.ownBlock] at h⟩
    · have hr2 := run_append_nil (P := P) w t ty e i z ht hi hz a m c news hl hnews (by omega) (by omega) (by simp only [Nat.zero_add] at hbytes; omega)
      rw [hr2] at hr
      cases hr
      refine ⟨?_, fun g h => .inr (by simp only [Value.ownBlock, Option.some.injEq] at h; omega)⟩
      intro g cs t' fz hg hh
      simp only [Value.ownBlock, Option.some.injEq] at hg
      subst hg
      rw [show w.heap.size = w.drew.heap.size from rfl, heap_alloc_new] at hh
      cases hh
      intro x hx
      simp only [Array.toList_append, List.mem_append] at hx
      rcases hx with hx | hx
      · exact hnn x (by simpa using hx)
      · exact zero_nb hzn _ x hx
  · have hcur := hnb g cur e (0, 0) rfl hg
    by_cases hroom : n + m ≤ cap
    · have hfit : n * i.size + news.length ≤ cur.size := by rw [hl, hcs, ← Nat.add_mul]; exact Nat.mul_le_mul_right _ hroom
      have hr2 := run_append_room (P := P) w t ty e i ht hi g n cap cur hg a m c news hl hnews h1 hroom hfit
      rw [hr2] at hr
      cases hr
      refine ⟨?_, fun g h => .inl h⟩
      intro g' cs t' fz hg' hh
      simp only [Value.ownBlock, Option.some.injEq] at hg'
      subst hg'
      rw [setRow_heap w g cur _ e _ hg] at hh
      cases hh
      intro x hx
      simp only [List.mem_append] at hx
      rcases hx with (hx | hx) | hx
      · exact hcur x (List.mem_of_mem_take hx)
      · exact hnn x hx
      · exact hcur x (List.mem_of_mem_drop hx)
    · have holds : ∀ j u, xs[j]? = some u → w.cell? ((⟨g, 0, none⟩ : Addr).add j) = some u := hown.cells (g := g) rfl
      have hr2 := run_append_grow (P := P) w t ty e i z ht hi hz ⟨g, 0, none⟩ n cap xs hown.1 holds a m c news hl hnews (by omega) (by omega) (growslice_fits (by omega) hbytes)
      rw [hr2] at hr
      cases hr
      refine ⟨?_, fun g h => .inr (by simp only [Value.ownBlock, Option.some.injEq] at h; omega)⟩
      intro g' cs t' fz hg' hh
      simp only [Value.ownBlock, Option.some.injEq] at hg'
      subst hg'
      rw [show w.heap.size = w.drew.heap.size from rfl, heap_alloc_new] at hh
      cases hh
      intro x hx
      simp only [Array.toList_append, List.mem_append] at hx
      rcases hx with (hx | hx) | hx
      · exact hcur x (by rw [← htake] at hx; exact List.mem_of_mem_take (by simpa using hx))
      · exact hnn x (by simpa using hx)
      · exact zero_nb hzn _ x hx
theorem wpList_append_nb {P : Program} (w : World) {ops : Array Oper} {rest : List Oper} {o : Oper} {a : Act} {Q : Exit → Act → World → Prop} (hgd : o.guard = none) (s x : Operand) (t : TypeId)
    (ho : o.op = .call { callee := .builtin .append, args := #[s, x], argTypes := #[t, t] })
    (base : Nat) (e : TypeId) (i : TypeInfo) (z : Value) (size bytes : Nat) (ht : P.underlying t = some (.slice e)) (hi : P.info? e = some i) (hz : i.zero = some z)
    (hsize : i.size = size) (hby : i.bytes = bytes) (hzs : z.cells.size = size) (hsz : 0 < size)
    (v : Value) (n : Nat) (xs : List Value) (hs : a.eval s = v) (hown : w.ownsRow base e size v n xs)
    (ad : Addr) (m c : Nat) (news : List Value) (hx : a.eval x = .slice (some ad) m c) (hl : news.length = m * size) (hnews : ∀ j u, news[j]? = some u → w.cell? (ad.add j) = some u) (h1 : ∀ u ∈ news, u.oneCell' = true)
    (h63 : n + m ≤ maxLen) (hbytes : (n + m) * bytes ≤ 140737488355328) (hbase : base ≤ w.heap.size) (hnb : RowNB w v) (hzn : ∀ u ∈ z.cells.toList, NB u) (hnn : ∀ u ∈ news, NB u)
    (h : ∀ v' w', w'.ownsRow base e size v' (n + m) (xs ++ news) → w.grownBy w' v.ownBlock → RowNB w' v' → (∀ g, v'.ownBlock = some g → v.ownBlock = some g ∨ w.heap.size ≤ g) → wpList P ops Q rest (a.put o.dst v') w') : wpList P ops Q (o :: rest) a w := by
  refine wpList_plain hgd fun K hK => ?_
  obtain ⟨v', w', hr, h2, h3, h4, h5⟩ := run_append_nb (P := P) w base t o.type e i z size bytes ht hi hz hsize hby hzs hsz v n xs hown ad m c news hl hnews h1 h63 hbytes hbase hnb hzn hnn
  unfold Oper.wp execOp
  simp only [ho, resolve, invoke, builtin, Sem.run_bind, Sem.run_pure, Result.andThen_ok, List.map_toArray, List.map_cons, List.map_nil, hs, hx, hr]
  exact hK _ _ (h v' w' h2 h3 h4 h5)
/-- an own row, as a row -/
theorem own_row {w : World} {base e size n : Nat} {v : Value} {f : Nat → Value} (h : w.ownsRow base e size v n ((List.range (n * size)).map f)) (hnb : RowNB w v) (hn : 0 < n) :
    ∃ g cap, v = .slice (some ⟨g, 0, none⟩) n cap ∧ base ≤ g ∧ (n ≤ cap ∧ cap ≤ maxLen) ∧ Row w g (n * size) f := by
  rcases h.2 with ⟨_, h0⟩ | ⟨g, cap, cur, rfl, hgb, hgg, hnc, hcm, hcs, htk⟩
  · omega
  refine ⟨g, cap, rfl, hgb, ⟨hnc, hcm⟩, cur, _, hgg, fun o ho => ?_, fun o u hu => ?_⟩
  · have h2 : (cur.toList.take (n * size))[o]? = some (f o) := by
      rw [htk, List.getElem?_map, List.getElem?_range ho]; rfl
    rw [List.getElem?_take, if_pos ho] at h2
    simpa using h2
  · exact hnb g cur _ _ rfl hgg _ (Array.mem_toList_iff.mpr (Array.mem_of_getElem? hu)) u rfl

theorem RV.single' {w : World} (x : Value) (t : TypeId) : RV (w.alloc (.cells #[x] t)) (.slice (some ⟨w.heap.size, 0, none⟩) 1 1) [x] :=
  RV.block (heap_new _ _) rfl (Nat.le_refl _) (by unfold maxLen; omega) (by simp)
/-- make([]T, n), T of some cells -/
theorem make_any {t e : TypeId} {z : Value} {size bytes : Nat} (ht : Try.prog.underlying t = some (.slice e)) (hi : (Try.prog.info? e).map (fun i => (i.zero, i.size, i.bytes)) = some (some z, size, bytes)) (n : Nat) (hn : n ≤ 1000000) (hb : bytes ≤ 1000) (w : World) :
    (Instr.makeSlice t (.int .i64 n) (.int .i64 n)).run Try.prog w = .ok (.slice (some ⟨w.heap.size, 0, none⟩) n n) (w.alloc (.cells (madeCells z.cells (n * size)) e)) := by
  obtain ⟨i, hi, hz0, hz1, hz2⟩ := info_parts hi
  have hle : n * bytes ≤ 1000000 * 1000 := Nat.mul_le_mul hn hb
  have h := run_make (P := Try.prog) w t e i z ht hi hz0 .i64 .i64 n n (by omega) (by omega) (by
    have h1 : ((bytes : Int) * (n : Int)) = ((n * bytes : Nat) : Int) := by rw [Int.natCast_mul, Int.mul_comm]
    rw [hz2, h1]; omega) (by omega)
  rw [hz1] at h
  simpa using h
theorem made_get (z : Array Value) (n i : Nat) (hi : i < n) (hz : 0 < z.size) : (madeCells z n)[i]? = some (z[i % z.size]'(Nat.mod_lt _ hz)) := by
  simp [madeCells, hi, Array.getElem?_eq_getElem, Nat.mod_lt _ hz]
/-- a new row of so many cells -/
theorem Row.made {w : World} {z : Array Value} {n t b : Nat} (hb : b = w.heap.size) (hz : 0 < z.size) (hn : ∀ v ∈ z, NB v) : Row (w.alloc (.cells (madeCells z n) t)) b n (fun o => z[o % z.size]'(Nat.mod_lt _ hz)) :=
  Row.mk' (heap_is hb) (fun o ho => made_get z n o ho hz) fun x hx => by
    obtain ⟨i, hi, rfl⟩ := Array.mem_iff_getElem.mp hx
    have hsz := size_madeCells z n
    have := made_get z n i (by omega) hz
    rw [Array.getElem?_eq_getElem hi] at this
    rw [Option.some.inj this]
    exact hn _ (Array.getElem_mem _)

theorem set4 {w1 : World} {b t : Nat} {x0 x1 x2 x3 u0 u1 u2 u3 : Value} (h : w1.heap[b]? = some (.cells #[x0, x1, x2, x3] t (0, 0))) :
    ((((w1.setCell ⟨b, 0, none⟩ u0).setCell ⟨b, 1, none⟩ u1).setCell ⟨b, 2, none⟩ u2).setCell ⟨b, 3, none⟩ u3).heap[b]? = some (.cells #[u0, u1, u2, u3] t (0, 0)) := by
  have h1 := set_at (o := 0) h u0
  have h2 := set_at (o := 1) h1 u1
  have h3 := set_at (o := 2) h2 u2
  have h4 := set_at (o := 3) h3 u3
  rw [h4]; rfl
theorem put4 {B : Nat} {w w1 : World} (hb : Below B w w1) (b : Nat) (u0 u1 u2 u3 : Value) (hB : B ≤ b) :
    Below B w ((((w1.setCell ⟨b, 0, none⟩ u0).setCell ⟨b, 1, none⟩ u1).setCell ⟨b, 2, none⟩ u2).setCell ⟨b, 3, none⟩ u3) :=
  (((hb.setCell (by exact hB) u0).setCell (by exact hB) u1).setCell (by exact hB) u2).setCell (by exact hB) u3
theorem only4 (w1 : World) (b : Nat) (u0 u1 u2 u3 : Value) :
    Only (fun x => x = b) w1 ((((w1.setCell ⟨b, 0, none⟩ u0).setCell ⟨b, 1, none⟩ u1).setCell ⟨b, 2, none⟩ u2).setCell ⟨b, 3, none⟩ u3) :=
  (((Only.of_set w1 ⟨b, 0, none⟩ u0).set ⟨b, 1, none⟩ u1 fun _ => rfl).set ⟨b, 2, none⟩ u2 fun _ => rfl).set ⟨b, 3, none⟩ u3 fun _ => rfl
end Go.Proofs.Ytogejjbclimjjaa
