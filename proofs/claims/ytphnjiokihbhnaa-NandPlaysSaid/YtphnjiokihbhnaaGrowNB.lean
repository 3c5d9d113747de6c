/- append onto an own row: its spare cells hold no byte either. -/
--only r2
import Derived.Test.YtphnjiokihbhnaaNandSpec
namespace Go.Proofs.Ytphnjiokihbhnaa
set_option linter.unusedVariables false
set_option linter.unusedSimpArgs false
open Go.RowKit

/-- a row's cells, spare ones too, are no bytes -/
def RowNB (w : World) (v : Value) : Prop := ∀ g cs t fz, v.ownBlock = some g → w.heap[g]? = some (.cells cs t fz) → ∀ x ∈ cs.toList, NB x
theorem RowNB.nil (w : World) : RowNB w (.slice none 0 0) := fun g cs t fz h => by simp [Value.ownBlock] at h
theorem RowNB.below {w w' : World} {v : Value} {base e size n : Nat} {xs : List Value} (hown : w.ownsRow base e size v n xs) (h : RowNB w v) {row : Option Nat} (hg : w.grownBy w' row) (hne : v.ownBlock = none ∨ v.ownBlock ≠ row) : RowNB w' v := by
  intro g cs t fz hv hh
  have hlt := (hown.lt g hv).2
  rw [hg.block g hlt (by rw [hv] at hne; simpa using hne)] at hh
  exact h g cs t fz hv hh
theorem RowNB.alloc {w : World} {v : Value} {base e size n : Nat} {xs : List Value} (hown : w.ownsRow base e size v n xs) (h : RowNB w v) (o : Obj) : RowNB (w.alloc o) v := RowNB.below hown h (World.grownBy_alloc w o none) (by cases hv : v.ownBlock <;> simp)
theorem RowNB.only {S : Nat → Prop} {w w' : World} {v : Value} {base e size n : Nat} {xs : List Value} (hown : w.ownsRow base e size v n xs) (h : RowNB w v) (hO : Only S w w') (hS : ∀ g, v.ownBlock = some g → ¬ S g) : RowNB w' v := by
  intro g cs t fz hv hh
  have hlt := (hown.lt g hv).2
  obtain ⟨o, ho⟩ : ∃ o, w.heap[g]? = some o := ⟨_, Array.getElem?_eq_getElem hlt⟩
  have := hO.at ho (hS g hv)
  rw [this] at hh
  cases hh
  exact h g cs t fz hv ho

theorem zero_nb {z : Array Value} (hz : ∀ u ∈ z.toList, NB u) (n : Nat) : ∀ u ∈ (Builtin.zeroCells z n).toList, NB u := fun u hu => by
  simp only [Builtin.zeroCells] at hu
  have := Array.mem_toList_iff.mp hu
  simp at this
  obtain ⟨i, hi, rfl⟩ := this
  have hz0 : 0 < z.size := Nat.pos_of_ne_zero fun e => by rw [e] at hi; simp at hi
  have hlt : i % z.size < z.size := Nat.mod_lt _ hz0
  rw [getElem!_pos z (i % z.size) hlt]
  exact hz _ (by simp)

theorem run_append_nb {P : Program} (w : World) (base : Nat) (t ty e : TypeId) (i : TypeInfo) (z : Value) (size bytes : Nat) (ht : P.underlying t = some (.slice e)) (hi : P.info? e = some i) (hz : i.zero = some z)
    (hsize : i.size = size) (hby : i.bytes = bytes) (hzs : z.cells.size = size) (hsz : 0 < size)
    (v : Value) (n : Nat) (xs : List Value) (hown : w.ownsRow base e size v n xs)
    (a : Addr) (m c : Nat) (news : List Value) (hl : news.length = m * size) (hnews : ∀ j u, news[j]? = some u → w.cell? (a.add j) = some u) (h1 : ∀ u ∈ news, u.oneCell' = true)
    (h63 : n + m ≤ maxLen) (hbytes : (n + m) * bytes ≤ 140737488355328) (hbase : base ≤ w.heap.size) (hnb : RowNB w v) (hzn : ∀ u ∈ z.cells.toList, NB u) (hnn : ∀ u ∈ news, NB u) :
    ∃ v' w', (Builtin.append_ #[t, t] ty #[v, .slice (some a) m c]).run P w = .ok v' w' ∧ w'.ownsRow base e size v' (n + m) (xs ++ news) ∧ w.grownBy w' v.ownBlock ∧ RowNB w' v' ∧ (∀ g, v'.ownBlock = some g → v.ownBlock = some g ∨ w.heap.size ≤ g) := by
  obtain ⟨v', w', hr, h2, h3, h4⟩ := run_append_own (P := P) w base t ty e i z size bytes ht hi hz hsize hby hzs hsz v n xs hown a m c news hl hnews h1 h63 hbytes hbase
  refine ⟨v', w', hr, h2, h3, ?_⟩
  subst hsize
  subst hby
  have hsmall : n + m ≤ 9223372036854775807 := by simp only [maxLen] at h63; omega
  rcases hown.2 with ⟨rfl, rfl⟩ | ⟨g, cap, cur, rfl, hbg, hg, hnc, hcm, hcs, htake⟩
  · by_cases hm : m = 0
    · rw [h4.mpr ⟨rfl, hm⟩]; exact ⟨RowNB.nil _, fun g h => by simp [Value.ownBlock] at h⟩
    · have hr2 := run_append_nil (P := P) w t ty e i z ht hi hz a m c news hl hnews (by omega) (by omega) (by simp only [Nat.zero_add] at hbytes; omega)
      rw [hr2] at hr
      cases hr
      refine ⟨?_, fun g h => .inr (by simp only [Value.ownBlock, Option.some.injEq] at h; omega)⟩
      intro g cs t' fz hg hh
      simp only [Value.ownBlock, Option.some.injEq] at hg
      subst hg
      rw [show w.heap.size = w.drew.heap.size from rfl, heap_alloc_new] at hh
      cases hh
      intro x hx
      simp only [Array.toList_append, List.mem_append] at hx
      rcases hx with hx | hx
      · exact hnn x (by simpa using hx)
      · exact zero_nb hzn _ x hx
  · have hcur := hnb g cur e (0, 0) rfl hg
    by_cases hroom : n + m ≤ cap
    · have hfit : n * i.size + news.length ≤ cur.size := by rw [hl, hcs, ← Nat.add_mul]; exact Nat.mul_le_mul_right _ hroom
      have hr2 := run_append_room (P := P) w t ty e i ht hi g n cap cur hg a m c news hl hnews h1 hroom hfit
      rw [hr2] at hr
      cases hr
      refine ⟨?_, fun g h => .inl h⟩
      intro g' cs t' fz hg' hh
      simp only [Value.ownBlock, Option.some.injEq] at hg'
      subst hg'
      rw [setRow_heap w g cur _ e _ hg] at hh
      cases hh
      intro x hx
      simp only [List.mem_append] at hx
      rcases hx with (hx | hx) | hx
      · exact hcur x (List.mem_of_mem_take hx)
      · exact hnn x hx
      · exact hcur x (List.mem_of_mem_drop hx)
    · have holds : ∀ j u, xs[j]? = some u → w.cell? ((⟨g, 0, none⟩ : Addr).add j) = some u := hown.cells (g := g) rfl
      have hr2 := run_append_grow (P := P) w t ty e i z ht hi hz ⟨g, 0, none⟩ n cap xs hown.1 holds a m c news hl hnews (by omega) (by omega) (growslice_fits (by omega) hbytes)
      rw [hr2] at hr
      cases hr
      refine ⟨?_, fun g h => .inr (by simp only [Value.ownBlock, Option.some.injEq] at h; omega)⟩
      intro g' cs t' fz hg' hh
      simp only [Value.ownBlock, Option.some.injEq] at hg'
      subst hg'
      rw [show w.heap.size = w.drew.heap.size from rfl, heap_alloc_new] at hh
      cases hh
      intro x hx
      simp only [Array.toList_append, List.mem_append] at hx
      rcases hx with (hx | hx) | hx
      · exact hcur x (by rw [← htake] at hx; exact List.mem_of_mem_take (by simpa using hx))
      · exact hnn x (by simpa using hx)
      · exact zero_nb hzn _ x hx
theorem wpList_append_nb {P : Program} (w : World) {ops : Array Oper} {rest : List Oper} {o : Oper} {a : Act} {Q : Exit → Act → World → Prop} (hgd : o.guard = none) (s x : Operand) (t : TypeId)
    (ho : o.op = .call { callee := .builtin .append, args := #[s, x], argTypes := #[t, t] })
    (base : Nat) (e : TypeId) (i : TypeInfo) (z : Value) (size bytes : Nat) (ht : P.underlying t = some (.slice e)) (hi : P.info? e = some i) (hz : i.zero = some z)
    (hsize : i.size = size) (hby : i.bytes = bytes) (hzs : z.cells.size = size) (hsz : 0 < size)
    (v : Value) (n : Nat) (xs : List Value) (hs : a.eval s = v) (hown : w.ownsRow base e size v n xs)
    (ad : Addr) (m c : Nat) (news : List Value) (hx : a.eval x = .slice (some ad) m c) (hl : news.length = m * size) (hnews : ∀ j u, news[j]? = some u → w.cell? (ad.add j) = some u) (h1 : ∀ u ∈ news, u.oneCell' = true)
    (h63 : n + m ≤ maxLen) (hbytes : (n + m) * bytes ≤ 140737488355328) (hbase : base ≤ w.heap.size) (hnb : RowNB w v) (hzn : ∀ u ∈ z.cells.toList, NB u) (hnn : ∀ u ∈ news, NB u)
    (h : ∀ v' w', w'.ownsRow base e size v' (n + m) (xs ++ news) → w.grownBy w' v.ownBlock → RowNB w' v' → (∀ g, v'.ownBlock = some g → v.ownBlock = some g ∨ w.heap.size ≤ g) → wpList P ops Q rest (a.put o.dst v') w') : wpList P ops Q (o :: rest) a w := by
  refine wpList_plain hgd fun K hK => ?_
  obtain ⟨v', w', hr, h2, h3, h4, h5⟩ := run_append_nb (P := P) w base t o.type e i z size bytes ht hi hz hsize hby hzs hsz v n xs hown ad m c news hl hnews h1 h63 hbytes hbase hnb hzn hnn
  unfold Oper.wp execOp
  simp only [ho, resolve, invoke, builtin, Sem.run_bind, Sem.run_pure, Result.andThen_ok, List.map_toArray, List.map_cons, List.map_nil, hs, hx, hr]
  exact hK _ _ (h v' w' h2 h3 h4 h5)
end Go.Proofs.Ytphnjiokihbhnaa
