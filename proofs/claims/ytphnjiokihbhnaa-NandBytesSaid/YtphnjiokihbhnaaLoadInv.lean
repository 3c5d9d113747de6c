/- nand.load: where it stands. -/
--only r2
import Derived.Test.YtphnjiokihbhnaaBlockLoad
import Derived.Test.YtphnjiokihbhnaaNandNew
/- Bytes as chips, plainly: all chips. -/
namespace Go.Proofs.Ytphnjiokihbhnaa
set_option linter.unusedVariables false
set_option linter.unusedSimpArgs false
open Go.RowKit

/-- chips whose bytes are loaded -/
structure IsChips (M : Nd) : Prop where
  geo : geoOk M.mem M.blk M.pgs M.siz
  blk : ∀ c b, c ≤ M.mem → b < M.blk → IsBlk M.siz M.pgs (M.next c b) (M.erases c b) ((List.range M.pgs).map (M.page c b))
def NoBody (l : List UInt8) : Prop := ∀ M0, IsChips M0 → bodyB M0 ≠ l
def chipsFrom (M : Nd) (c : Nat) : List UInt8 := (List.range' c (M.mem + 1 - c)).flatMap (chipB M)
def blocksFrom (M : Nd) (c b : Nat) : List UInt8 := (List.range' b (M.blk - b)).flatMap (blockB M c)
theorem chipsFrom_step (M : Nd) (c : Nat) (h : c ≤ M.mem) : chipsFrom M c = chipB M c ++ chipsFrom M (c + 1) := by
  unfold chipsFrom
  rw [show M.mem + 1 - c = (M.mem + 1 - (c + 1)) + 1 by omega, List.range'_succ, List.flatMap_cons]
theorem chipsFrom_end (M : Nd) : chipsFrom M (M.mem + 1) = [] := by unfold chipsFrom; simp
theorem blocksFrom_step (M : Nd) (c b : Nat) (h : b < M.blk) : blocksFrom M c b = blockB M c b ++ blocksFrom M c (b + 1) := by
  unfold blocksFrom
  rw [show M.blk - b = (M.blk - (b + 1)) + 1 by omega, List.range'_succ, List.flatMap_cons]
theorem blocksFrom_end (M : Nd) (c : Nat) : blocksFrom M c M.blk = [] := by unfold blocksFrom; simp
theorem bodyB_from (M : Nd) : bodyB M = headB M ++ chipsFrom M 0 := by
  unfold bodyB chipsB chipsFrom
  rw [List.range_eq_range']; simp
theorem chipB_from (M : Nd) (c : Nat) : chipB M c = leAll 1 [bitN (M.gone c)] ++ blocksFrom M c 0 := by
  unfold chipB blocksB blocksFrom
  rw [List.range_eq_range']; simp

/-- where the loading of all chips stands, at a chip's beginning -/
def LeftC (l : List UInt8) (m b p s : Nat) (k c : Nat) : Prop := ∀ M0, IsChips M0 → bodyB M0 = l → M0.mem = m ∧ M0.blk = b ∧ M0.pgs = p ∧ M0.siz = s ∧ l.drop k = chipsFrom M0 c
/-- .. at a block's -/
def LeftB (l : List UInt8) (m b p s : Nat) (D k c i : Nat) : Prop := ∀ M0, IsChips M0 → bodyB M0 = l → M0.mem = m ∧ M0.blk = b ∧ M0.pgs = p ∧ M0.siz = s ∧ bitN (M0.gone c) = D ∧ l.drop k = blocksFrom M0 c i ++ chipsFrom M0 (c + 1)
section
variable {l : List UInt8} {m b p s k c D i k' : Nat}
theorem head_left {M0 : Nd} (h : IsChips M0) (e : bodyB M0 = l) : 12 ≤ l.length ∧ leNum ((l.drop 0).take 4) = 1312964935 ∧ M0.mem = leNum ((l.drop 4).take 2) ∧ M0.blk = leNum ((l.drop 6).take 2) ∧ M0.pgs = leNum ((l.drop 8).take 2) ∧ M0.siz = leNum ((l.drop 10).take 2) ∧ l.drop 12 = chipsFrom M0 0 := by
  rw [bodyB_from] at e
  obtain ⟨g1, g2, g3, g4, g5, g6, g7, g8, g9⟩ := h.geo
  have e0 : l.drop 0 = leBytes 4 1312964935 ++ (leBytes 2 M0.mem ++ (leBytes 2 M0.blk ++ (leBytes 2 M0.pgs ++ (leBytes 2 M0.siz ++ chipsFrom M0 0)))) := by
    rw [List.drop_zero, ← e]; simp [headB, leAll]
  obtain ⟨-, a2, a3⟩ := drop_app e0
  obtain ⟨-, b2, b3⟩ := drop_app a3
  obtain ⟨-, c2, c3⟩ := drop_app b3
  obtain ⟨-, d2, d3⟩ := drop_app c3
  obtain ⟨-, f2, f3⟩ := drop_app d3
  simp only [leBytes_length, Nat.zero_add] at a2 a3 b2 b3 c2 c3 d2 d3 f2 f3
  refine ⟨?_, ?_, ?_, ?_, ?_, ?_, f3⟩
  · rw [← e, List.length_append, headB_length]; omega
  · rw [a2]; decide
  · rw [b2, leNum_le 2 _ (by omega)]
  · rw [c2, leNum_le 2 _ (by omega)]
  · rw [d2, leNum_le 2 _ (by omega)]
  · rw [f2, leNum_le 2 _ (by omega)]
theorem leftC_short (h : LeftC l m b p s k c) (hc : c ≤ m) (hk : ¬ k < l.length) : NoBody l := fun M0 h0 e => by
  obtain ⟨rfl, -, -, -, h5⟩ := h M0 h0 e
  rw [chipsFrom_step M0 c hc, chipB_from] at h5
  simp only [leAll, List.flatMap_cons, List.flatMap_nil, List.append_nil, leBytes, List.cons_append, List.nil_append] at h5
  exact hk (drop_cons h5).1
theorem leftC_byte (h : LeftC l m b p s k c) (hc : c ≤ m) : LeftB l m b p s (leNum ((l.drop k).take 1)) (k + 1) c 0 := fun M0 h0 e => by
  obtain ⟨rfl, h2, h3, h4, h5⟩ := h M0 h0 e
  rw [chipsFrom_step M0 c hc, chipB_from] at h5
  simp only [leAll, List.flatMap_cons, List.flatMap_nil, List.append_nil, leBytes, List.cons_append, List.nil_append, List.append_assoc] at h5
  obtain ⟨-, h6, h7⟩ := drop_cons h5
  refine ⟨rfl, h2, h3, h4, ?_, h7⟩
  rw [h6, leNum_one, u8_mod]
  have := bitN_lt (M0.gone c)
  omega
theorem leftB_none (h : LeftB l m b p s D k c i) (hc : c ≤ m) (hi : i < b) (hn : NoBlk l k s p) : NoBody l := fun M0 h0 e => by
  obtain ⟨rfl, rfl, rfl, rfl, -, h6⟩ := h M0 h0 e
  have hb := h0.blk c i hc hi
  rw [blocksFrom_step M0 c i hi, blockB_list M0 c i hb.her, List.append_assoc] at h6
  exact hn _ _ _ _ _ hb h6
theorem leftB_next (h : LeftB l m b p s D k c i) (hc : c ≤ m) (hi : i < b) (hn : ∀ bd nx er pl suf, IsBlk s p nx er pl → l.drop k = blkBytes bd nx er pl ++ suf → l.drop k' = suf) : LeftB l m b p s D k' c (i + 1) := fun M0 h0 e => by
  obtain ⟨rfl, rfl, rfl, rfl, h5, h6⟩ := h M0 h0 e
  have hb := h0.blk c i hc hi
  rw [blocksFrom_step M0 c i hi, blockB_list M0 c i hb.her, List.append_assoc] at h6
  exact ⟨rfl, rfl, rfl, rfl, h5, hn _ _ _ _ _ hb h6⟩
theorem leftB_bad (h : LeftB l m b p s D k c i) (hD : 1 < D) : NoBody l := fun M0 h0 e => by
  have := (h M0 h0 e).2.2.2.2.1
  cases hg : M0.gone c <;> rw [hg] at this <;> simp [bitN] at this <;> omega
theorem leftB_chip (h : LeftB l m b p s D k c b) : LeftC l m b p s k (c + 1) := fun M0 h0 e => by
  obtain ⟨h1, rfl, h3, h4, -, h6⟩ := h M0 h0 e
  rw [blocksFrom_end, List.nil_append] at h6
  exact ⟨h1, rfl, h3, h4, h6⟩
theorem leftC_end (h : LeftC l m b p s k (m + 1)) (hk : k < l.length) : NoBody l := fun M0 h0 e => by
  obtain ⟨rfl, -, -, -, h5⟩ := h M0 h0 e
  rw [chipsFrom_end] at h5
  have := congrArg List.length h5
  simp at this
  omega
end
end Go.Proofs.Ytphnjiokihbhnaa
namespace Go.Proofs.Ytphnjiokihbhnaa
set_option linter.unusedVariables false
set_option linter.unusedSimpArgs false
open Go.RowKit

theorem blockB_congr {M M' : Nd} {c b : Nat} (h1 : M'.page c b = M.page c b) (h2 : M'.next c b = M.next c b) (h3 : M'.erases c b = M.erases c b) (h4 : M'.bad c b = M.bad c b) (hp : M'.pgs = M.pgs) : blockB M' c b = blockB M c b := by
  unfold blockB pagesB; rw [h1, h2, h3, h4, hp]
theorem blocksB_congr {M M' : Nd} {c : Nat} (k : Nat) (h : ∀ i, i < k → blockB M' c i = blockB M c i) : blocksB M' c k = blocksB M c k := by
  induction k with
  | zero => rfl
  | succ k ih => rw [blocksB_succ, blocksB_succ, ih fun i hi => h i (by omega), h k (by omega)]
theorem chipB_congr {M M' : Nd} {c : Nat} (h1 : M'.gone c = M.gone c) (h2 : M'.blk = M.blk) (h : ∀ i, blockB M' c i = blockB M c i) : chipB M' c = chipB M c := by
  unfold chipB; rw [h1, h2, blocksB_congr _ fun i _ => h i]
theorem chipsB_congr {M M' : Nd} (k : Nat) (h : ∀ c, c < k → chipB M' c = chipB M c) : chipsB M' k = chipsB M k := by
  induction k with
  | zero => rfl
  | succ k ih => rw [chipsB_succ, chipsB_succ, ih fun i hi => h i (by omega), h k (by omega)]
theorem headB_congr {M M' : Nd} (h1 : M'.mem = M.mem) (h2 : M'.blk = M.blk) (h3 : M'.pgs = M.pgs) (h4 : M'.siz = M.siz) : headB M' = headB M := by
  unfold headB; rw [h1, h2, h3, h4]

/-- at a chip's beginning -/
structure LCInv (w : World) (r qg : Nat) (v : Value) (l : List UInt8) (m b p s c k : Nat) (L : NdLay) (M : Nd) (wr : World) : Prop where
  nd : NdAt true wr L M
  sh : M.mem = m ∧ M.blk = b ∧ M.pgs = p ∧ M.siz = s
  quiet : M.evs = [] ∧ M.off = false ∧ M.ops = 0
  new : ∀ x, L.tag x ≠ .none → w.heap.size ≤ x
  rest : ∀ c' i q, c ≤ c' → M.page c' i q = []
  rd : Rd wr r v l k
  tk : l.take k = headB M ++ chipsB M c
  left : LeftC l m b p s k c
  geo : wr.heap[qg]? = some (.cells #[.int .i64 m, .int .i64 b, .int .i64 p, .int .i64 s] 29 (0, 0))
  gt : L.tag qg = .none ∧ L.tag r = .none ∧ qg ≠ r
  only : Only (fun x => x = r) w wr
/-- at a block's -/
structure LBInv (w : World) (r qg : Nat) (v : Value) (l : List UInt8) (m b p s c D i k : Nat) (L : NdLay) (M : Nd) (wr : World) : Prop where
  nd : NdAt true wr L M
  sh : M.mem = m ∧ M.blk = b ∧ M.pgs = p ∧ M.siz = s
  quiet : M.evs = [] ∧ M.off = false ∧ M.ops = 0
  new : ∀ x, L.tag x ≠ .none → w.heap.size ≤ x
  gone : M.gone c = ((D : Int) == 1)
  here : ∀ i' q, i ≤ i' → M.page c i' q = []
  rest : ∀ c' i' q, c + 1 ≤ c' → M.page c' i' q = []
  rd : Rd wr r v l k
  tk : l.take k = headB M ++ chipsB M c ++ leAll 1 [D] ++ blocksB M c i
  left : LeftB l m b p s D k c i
  geo : wr.heap[qg]? = some (.cells #[.int .i64 m, .int .i64 b, .int .i64 p, .int .i64 s] 29 (0, 0))
  gt : L.tag qg = .none ∧ L.tag r = .none ∧ qg ≠ r
  only : Only (fun x => x = r) w wr

section
variable {w : World} {r qg : Nat} {v : Value} {l : List UInt8} {m b p s c D i k k' : Nat} {L L' : NdLay} {M M' : Nd} {wr w' : World}
/-- what the array turns is new -/
theorem only_reader (hnew : ∀ x, L.tag x ≠ .none → w.heap.size ≤ x) (h : Only (fun x => x = r) w wr) (k : Only (fun x => L.S x ∨ x = r) wr w') : Only (fun x => x = r) w w' :=
  h.trans k fun x hx hh => by
    rcases hh with hh | hh
    · have := hnew x (NdLay.S_ne hh); omega
    · exact hh
/-- a block was loaded -/
theorem LBInv.step (h : LBInv w r qg v l m b p s c D i k L M wr) (hc : c ≤ m) (hi : i < b) (hL : SameLay L L') (hN : NdAt true w' L' M') (hr : Rd w' r v l k') (hO : Only (fun x => L.S x ∨ x = r) wr w') (htk : l.take k' = l.take k ++ blockB M' c i) (hbo : BlkOnly c i M M')
    (hn : ∀ bd nx er pl suf, IsBlk M.siz M.pgs nx er pl → l.drop k = blkBytes bd nx er pl ++ suf → l.drop k' = suf) : LBInv w r qg v l m b p s c D (i + 1) k' L' M' w' := by
  obtain ⟨rfl, rfl, rfl, rfl⟩ := h.sh
  have hbl : ∀ c' i', ¬ (c' = c ∧ i' = i) → blockB M' c' i' = blockB M c' i' := fun c' i' hne => blockB_congr (hbo.page c' i' hne) (hbo.next c' i' hne) (hbo.erases c' i' hne) (hbo.bad c' i' hne) hbo.pgs
  refine ⟨hN, ⟨hbo.mem, hbo.blk, hbo.pgs, hbo.siz⟩, ⟨hbo.evs.trans h.quiet.1, hbo.off.trans h.quiet.2.1, hbo.ops.trans h.quiet.2.2⟩, fun x hx => h.new x (by rw [← hL.tag]; exact hx), by rw [hbo.gone]; exact h.gone, fun i' q hi' => ?_, fun c' i' q hc' => ?_, hr, ?_, leftB_next h.left hc hi hn, hO.at h.geo (fun e => ?_), ⟨by rw [hL.tag]; exact h.gt.1, by rw [hL.tag]; exact h.gt.2.1, h.gt.2.2⟩, only_reader h.new h.only hO⟩
  · rw [hbo.page c i' (by omega)]; exact h.here i' q (by omega)
  · rw [hbo.page c' i' (by omega)]; exact h.rest c' i' q hc'
  · rw [htk, h.tk, headB_congr hbo.mem hbo.blk hbo.pgs hbo.siz, chipsB_congr (M' := M') (M := M) c (fun c' hc' => chipB_congr (by rw [hbo.gone]) hbo.blk fun i' => hbl c' i' (by omega)), blocksB_succ, blocksB_congr (M' := M') (M := M) i (fun i' hi' => hbl c i' (by omega))]
    simp only [List.append_assoc]
  · rcases e with e | e
    · exact NdLay.not_S' h.gt.1 e
    · exact h.gt.2.2 e
/-- a chip was loaded -/
theorem LBInv.chip (h : LBInv w r qg v l m b p s c D b k L M wr) (hD : D ≤ 1) : LCInv w r qg v l m b p s (c + 1) k L M wr := by
  have hb : bitN (M.gone c) = D := by
    rw [h.gone]
    rcases (by omega : D = 0 ∨ D = 1) with rfl | rfl <;> rfl
  refine ⟨h.nd, h.sh, h.quiet, h.new, h.rest, h.rd, ?_, leftB_chip h.left, h.geo, h.gt, h.only⟩
  rw [h.tk, chipsB_succ, chipB, hb, h.sh.2.1]
  simp only [List.append_assoc]
/-- a chip begins -/
theorem LCInv.byte (h : LCInv w r qg v l m b p s c k L M wr) (hc : c ≤ m) (hk : k < l.length) {D : Nat} (hD : D = leNum ((l.drop k).take 1)) {M' : Nd} (hM : M' = { M with gone := upd1 M.gone c ((D : Int) == 1) }) {w5 w6 : World}
    (hO : Only (fun x => x = r) wr w5) (hr : Rd w5 r v l (k + 1)) (hN : NdAt true w6 L M') (hO6 : Only L.S w5 w6) : LBInv w r qg v l m b p s c D 0 (k + 1) L M' w6 := by
  have hnb : ∀ x, L.S x → NoByte w5 x := fun x hx => (h.nd.frame hO (fun y _ e => by rw [e]; exact h.gt.2.1) (fun y _ e => by rw [e]; exact h.rd.noByte)).noByte hx
  have hg : ∀ c', c' ≠ c → M'.gone c' = M.gone c' := fun c' hne => by rw [hM]; exact if_neg hne
  have hbl : ∀ c' i', blockB M' c' i' = blockB M c' i' := fun c' i' => by rw [hM]; rfl
  refine ⟨hN, by rw [hM]; exact h.sh, by rw [hM]; exact h.quiet, h.new, by rw [hM]; exact upd1_same _ _ _, fun i' q _ => by rw [hM]; exact h.rest c i' q (Nat.le_refl _), fun c' i' q hc' => by rw [hM]; exact h.rest c' i' q (by omega), ⟨hO6.at hr.cell (NdLay.not_S' h.gt.2.1), hr.rb.only hO6 (fun x _ hx => hnb x hx), hr.le⟩, ?_, by rw [hD]; exact leftC_byte h.left hc, hO6.at (hO.at h.geo h.gt.2.2) (NdLay.not_S' h.gt.1), h.gt, ?_⟩
  · rw [(read_byte hk).1, h.tk, ← hD, headB_congr (M' := M') (M := M) (by rw [hM]) (by rw [hM]) (by rw [hM]) (by rw [hM]), chipsB_congr (M' := M') (M := M) c (fun c' hc' => chipB_congr (hg c' (by omega)) (by rw [hM]) fun i' => hbl c' i')]
    simp [blocksB]
  · exact only_reader h.new h.only ((hO.mono fun x _ e => .inr e).trans (hO6.mono fun x _ e => .inl e) fun _ _ h => h)
end
end Go.Proofs.Ytphnjiokihbhnaa
