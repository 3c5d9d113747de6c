/- nand: a page is read. -/
--only r2
import Derived.Test.YtphnjiokihbhnaaNandLeft
namespace Go.Proofs.Ytphnjiokihbhnaa
set_option linter.unusedVariables false
set_option linter.unusedSimpArgs false
open Go.RowKit

/-- what begins ends in: the shape stays -/
theorem begin_shape (M : Nd) (c b : Int) : (M.begin c b).1.mem = M.mem ∧ (M.begin c b).1.blk = M.blk ∧ (M.begin c b).1.pgs = M.pgs ∧ (M.begin c b).1.siz = M.siz ∧ (M.begin c b).1.page = M.page ∧ (M.begin c b).1.next = M.next ∧ (M.begin c b).1.erases = M.erases ∧ (M.begin c b).1.bad = M.bad ∧ (M.begin c b).1.evs = M.evs := by
  unfold Nd.begin
  split
  · simp
  · split
    · simp
    · simp only []
      unfold Nd.die
      split <;> split <;> (try split) <;> simp
theorem begin_zero (M : Nd) (c b : Int) (h : (M.begin c b).2.2 = 0) : M.inside c b ∧ M.off = false ∧ (M.begin c b).1.off = false := by
  unfold Nd.begin at h ⊢
  split at h
  · simp at h
  · rename_i ho
    split at h
    · simp at h
    · rename_i hi
      simp only at h
      refine ⟨by simpa using hi, by simpa using ho, ?_⟩
      rw [if_neg ho, if_neg hi]
      simp only []
      split at h
      · split at h <;> simp at h
      · rename_i hg
        rw [if_neg hg]
        unfold Nd.die
        split <;> simpa using ho

theorem res_ttt {P : Program} {fn : Func} {x y z : Tmp} {tmps : Array Value} {w : World} (h : fn.results = #[.tmp x, .tmp y, .tmp z]) :
    (results fn tmps).run P w = .ok (.tuple #[tmps.getD x undef, tmps.getD y undef, tmps.getD z undef]) w := by
  simp [results, h]
theorem cmp_some (a : Addr) (n c : Nat) (w : World) : (binOp BinOp.eql 31 (.slice (some a) n c) (.slice none 0 0)).run Try.prog w = .ok (.bool false) w := by kernel_rfl
theorem cmp_none (w : World) : (binOp BinOp.eql 31 (.slice none 0 0) (.slice none 0 0)).run Try.prog w = .ok (.bool true) w := by kernel_rfl
/-- what Read is to end in -/
def ReadEnds (w : World) (L : NdLay) (M : Nd) (c b p : Int) (e : Ending) (w' : World) : Prop :=
  ∃ v1 v2, e = .returned (.tuple #[v1, v2, .int .i64 (M.read c b p).2.2]) ∧ RB w' v1 ((M.read c b p).2.1.take M.siz) ∧ RB w' v2 ((M.read c b p).2.1.drop M.siz) ∧ NdAt true w' L (M.read c b p).1 ∧ Only L.S w w'

set_option maxRecDepth 100000 in
set_option maxHeartbeats 1000000 in
theorem nread_calls {w : World} {L : NdLay} {M : Nd} (h : NdAt true w L M) (c b p : Int) (hc : I64 c) (hb : I64 b) (hp : I64 p) (hops : M.ops < 1000000) :
    Calls Try.prog 17 #[ptrV L.p, .int .i64 c, .int .i64 b, .int .i64 p] w (ReadEnds w L M c b p) := by
  have hB := begin_calls h c b hc hb hops
  obtain ⟨s1, s2, s3, s4, s5, s6, s7, s8, s9⟩ := begin_shape M c b
  have hz := begin_zero M c b
  have hrd : M.read c b p = (if (M.begin c b).2.2 ≠ 0 then ((M.begin c b).1, [], (M.begin c b).2.2) else if (M.begin c b).2.1.kind = 2 then ({ (M.begin c b).1 with off := true }, [], 72) else if ¬ (M.begin c b).1.pageIn p then ((M.begin c b).1, [], 34) else ((M.begin c b).1, if ((M.begin c b).1.page c.toNat b.toNat p.toNat).length = 0 then full ((M.begin c b).1.siz + 64) else (M.begin c b).1.page c.toNat b.toNat p.toNat, 0)) := rfl
  have HRD := Lib.hid hrd
  clear hrd
  generalize hPost : ReadEnds w L M c b p = Post
  have HPOST := Lib.hid hPost
  clear hPost
  unfold BeginEnds at hB
  generalize M.begin c b = R at hB s1 s2 s3 s4 s5 s6 s7 s8 s9 hz HRD
  obtain ⟨M1, x, n⟩ := R
  simp only at hB s1 s2 s3 s4 s5 s6 s7 s8 s9 hz HRD
  obtain ⟨xo, xk, xc, xl⟩ := x
  simp only [evV] at hB
  simp only at HRD
  have S1 := Lib.hid (⟨s1, s2, s3, s4, s5, s6, s7, s8, s9⟩ : _ ∧ _ ∧ _ ∧ _ ∧ _ ∧ _ ∧ _ ∧ _ ∧ _)
  have HZ := Lib.hid hz
  clear s1 s2 s3 s4 s5 s6 s7 s8 s9 hz h
  have HB := Lib.hid hB
  clear hB
  go_enter Try.func17, Try.ntmps17
  go_wp2_with fail
  refine HB.out.mono ?_
  rintro e w1 ⟨v, rfl, hv, hN, hO⟩
  obtain ⟨va, vc, rfl, -, -⟩ := hv.form
  clear HB
  obtain ⟨s1, s2, s3, s4, s5, s6, s7, s8, s9⟩ := S1.out
  have hT := hN.top
  have hsz := hN.ok.siz
  have hpg := hN.ok.pgs
  simp only [topCells, if_true] at hT
  have hlp := heap_lt hT
  have hok := hN.ok.page
  obtain ⟨q, hq⟩ : ∃ q, q = w1.heap.size := ⟨_, rfl⟩
  have hb2 := (Below.refl w1.heap.size w1).alloc (Nat.le_refl _) (.cells #[.int .i64 xo, .int .i64 xk, .int .i64 xc, .slice va xl.length vc] 92)
  have hQ : (w1.alloc (.cells #[.int .i64 xo, .int .i64 xk, .int .i64 xc, .slice va xl.length vc] 92)).heap[q]? = some (.cells #[.int .i64 xo, .int .i64 xk, .int .i64 xc, .slice va xl.length vc] 92 (0, 0)) := heap_is hq
  have hN2 := hN.below hb2
  have hO2 := hO.trans (Only.new hb2 fun _ => False) fun _ _ => False.elim
  clear s1 s2 s4 s5 s6 s7 s8 s9 hq
  by_cases hn0 : n = 0
  · obtain ⟨⟨i1, i2, i3, i4⟩, -, -⟩ := HZ.out hn0
    obtain ⟨c, rfl⟩ : ∃ k : Nat, c = k := ⟨c.toNat, by omega⟩
    obtain ⟨b, rfl⟩ : ∃ k : Nat, b = k := ⟨b.toNat, by omega⟩
    subst hn0
    have hrd := HRD.out
    rw [if_neg (by simp)] at hrd
    by_cases hk : xk = 2
    · rw [if_pos hk] at hrd
      have HR := Lib.hid hrd
      have hN3 := (hN.setOff true).below ((Below.refl _ _).alloc (Nat.le_refl _) (.cells #[.int .i64 xo, .int .i64 xk, .int .i64 xc, .slice va xl.length vc] 92))
      have hO3 := (hO.set ⟨L.p, 8, none⟩ (.bool true) (fun _ => hN.Sp)).alloc (.cells #[.int .i64 xo, .int .i64 xk, .int .i64 xc, .slice va xl.length vc] 92)
      have HX := Lib.hid (⟨hN3, hO3⟩ : _ ∧ _)
      have hfin : ∀ w', NdAt true w' L { M1 with off := true } ∧ Only L.S w w' → Post (.returned (.tuple #[nilV, nilV, .int .i64 72])) w' := fun w' ⟨h1, h2⟩ => by
        rw [← HPOST.out, ReadEnds, HR.out]
        exact ⟨nilV, nilV, rfl, by rw [List.take_nil]; exact RB.nil _, by rw [List.drop_nil]; exact RB.nil _, h1, h2⟩
      have HF := Lib.hid hfin
      have t8 := cells_at hT 8 _ rfl
      have t8f := froz_at hT 8
      simp only [List.getElem_toArray, List.getElem_cons_succ, List.getElem_cons_zero] at t8
      have hk' : (xk == 2) = true := by simp [hk]
      have hlq := heap_lt hQ
      have q1 := cells_at hQ 1 _ rfl
      clear hk hrd hfin hT hQ hN2 hO2 hN3 hO3 hO hN
      go_wp2_with fail
      exact HF.out _ HX.out
    · rw [if_neg hk] at hrd
      by_cases hpi : M1.pageIn p
      · rw [if_neg (by simpa using hpi)] at hrd
        obtain ⟨j1, j2⟩ := hpi
        obtain ⟨p, rfl⟩ : ∃ k : Nat, p = k := ⟨p.toNat, by omega⟩
        simp only [Int.toNat_natCast] at hrd
        have s := S1.out
        have hcm : c ≤ M1.mem := by rw [s.1]; omega
        have hbm : b < M1.blk := by rw [s.2.1]; omega
        have hpm : p < M1.pgs := by omega
        have hk0 := (hN2.blk c hcm).cell (o := b * 4) (by omega)
        rw [blkCells0] at hk0
        have hp0 := (hN2.pgs c b hcm hbm).cell (o := p * 2) (by show p * 2 < M1.pgs * 2; omega)
        have hp1 := (hN2.pgs c b hcm hbm).cell (o := p * 2 + 1) (by show p * 2 + 1 < M1.pgs * 2; omega)
        have hpv := hN2.pg c b p hcm hbm hpm
        have hok' := hok c b p
        have t2 := cells_at (heap_keep hb2 hT) 2 _ rfl
        have t3 := cells_at (heap_keep hb2 hT) 3 _ rfl
        simp only [List.getElem_toArray, List.getElem_cons_succ, List.getElem_cons_zero] at t2 t3
        have hlb : L.cb c < w1.heap.size := (hN.blk c hcm).lt
        have hlg : L.pb c b < w1.heap.size := (hN.pgs c b hcm hbm).lt
        have hk' : (xk == 2) = false := by simp [hk]
        have hlq := heap_lt hQ
        have q1 := cells_at hQ 1 _ rfl
        have hbp : blkPtr L 0 (c : Int) (b : Int) = .pointer (some ⟨L.cb c, b * 4, none⟩) := rfl
        rw [hbp]
        have hfin : ∀ w' v1 v2 l, l = (if (M1.page c b p).length = 0 then full (M1.siz + 64) else M1.page c b p) → NdAt true w' L M1 → Only L.S w w' → RB w' v1 (l.take M1.siz) → RB w' v2 (l.drop M1.siz) → Post (.returned (.tuple #[v1, v2, .int .i64 0])) w' := fun w' v1 v2 l e h1 h2 h3 h4 => by
          rw [← HPOST.out, ReadEnds, hrd, ← e, ← s.2.2.2.1]
          exact ⟨v1, v2, rfl, h3, h4, h1, h2⟩
        have HF := Lib.hid hfin
        clear hk hT hbp s hok s3 hN hO hv hb2 hrd hfin
        have hpv' : (M1.page c b p = [] ∧ L.pv c b (p * 2) = nilV ∧ L.pv c b (p * 2 + 1) = nilV) ∨ (M1.page c b p ≠ [] ∧ RB (w1.alloc (.cells #[.int .i64 xo, .int .i64 xk, .int .i64 xc, .slice va xl.length vc] 92)) (L.pv c b (p * 2)) ((M1.page c b p).take M1.siz) ∧ RB (w1.alloc (.cells #[.int .i64 xo, .int .i64 xk, .int .i64 xc, .slice va xl.length vc] 92)) (L.pv c b (p * 2 + 1)) ((M1.page c b p).drop M1.siz)) := hpv
        clear hpv
        generalize L.pv c b (p * 2) = v1 at hp0 hpv'
        generalize L.pv c b (p * 2 + 1) = v2 at hp1 hpv'
        have d1 : ¬ (p : Int) < 0 := by omega
        have d2 : ¬ M1.pgs ≤ p := by omega
        rcases hpv' with ⟨e0, rfl, rfl⟩ | ⟨e0, hv1, hv2⟩
        · have hfin : ∀ w' v1 v2, NdAt true w' L M1 → Only L.S w w' → RB w' v1 (full M1.siz) → RB w' v2 (full 64) → Post (.returned (.tuple #[v1, v2, .int .i64 0])) w' := fun w' v1 v2 h1 h2 h3 h4 => by
            refine HF.out w' v1 v2 _ (by rw [if_pos (by rw [e0]; rfl)]) h1 h2 ?_ ?_
            · simpa [full] using h3
            · simpa [full] using h4
          clear HF
          have HF := Lib.hid hfin
          have hcmp := cmp_none
          have hb3 := (Below.refl (w1.alloc (.cells #[.int .i64 xo, .int .i64 xk, .int .i64 xc, .slice va xl.length vc] 92)).heap.size (w1.alloc (.cells #[.int .i64 xo, .int .i64 xk, .int .i64 xc, .slice va xl.length vc] 92))).alloc (Nat.le_refl _) (.cells #[.slice none 0 0, .slice none 0 0] 96)
          have hN3 := hN2.below hb3
          have hO3 := hO2.trans (Only.new hb3 fun _ => False) fun _ _ => False.elim
          have HX := Lib.hid (⟨hN3, hO3⟩ : _ ∧ _)
          unfold nilV at hp0 hp1
          clear hN3 hO3 hb3 hN2 hO2 hfin e0 hok'
          go_wp2_with fail
          obtain ⟨hN3, hO3⟩ := HX.out
          clear HX
          generalize ((w1.alloc (.cells #[.int .i64 xo, .int .i64 xk, .int .i64 xc, .slice va xl.length vc] 92)).alloc (.cells #[.slice none 0 0, .slice none 0 0] 96)) = w4 at hN3 hO3 ⊢
          refine (full_calls M1.siz w4 (by omega)).mono ?_
          rintro e w5 ⟨rfl, hu1, hb5⟩
          have hN5 := hN3.below hb5
          have hO5 := hO3.trans (Only.new hb5 fun _ => False) fun _ _ => False.elim
          have HX := Lib.hid (⟨hN5, hO5, hu1⟩ : _ ∧ _ ∧ _)
          clear hN3 hO3 hb5 hN5 hO5 hu1
          go_wp2_with fail
          refine (full_calls 64 w5 (by omega)).mono ?_
          rintro e w6 ⟨rfl, hu2, hb6⟩
          obtain ⟨hN5, hO5, hu1⟩ := HX.out
          have hN6 := hN5.below hb6
          have hO6 := hO5.trans (Only.new hb6 fun _ => False) fun _ _ => False.elim
          have hu1' := hu1.below hb6
          have HX := Lib.hid (⟨hN6, hO6, hu1', hu2⟩ : _ ∧ _ ∧ _ ∧ _)
          clear hN5 hO5 hu1 hN6 hO6 hu1' hu2 hb6
          go_wp2_with fail
          obtain ⟨hN6, hO6, hu1, hu2⟩ := HX.out
          exact HF.out _ _ _ hN6 hO6 hu1 hu2
        · have hlen : (M1.page c b p).length = M1.siz + 64 := hok'.resolve_left e0
          obtain ⟨b1, o1, c1, e1, l1, m1, -⟩ := hv1.out (by simp; omega)
          obtain ⟨b2, o2, c2, e2, l2, m2, -⟩ := hv2.out (by simp; omega)
          have hlt1 : (List.take M1.siz (M1.page c b p)).length = M1.siz := by simp; omega
          have hlt2 : (List.drop M1.siz (M1.page c b p)).length = 64 := by simp; omega
          have HL1 := Lib.hid hlt1
          have HL2 := Lib.hid hlt2
          have hfin : ∀ w' v1 v2, NdAt true w' L M1 → Only L.S w w' → RB w' v1 ((M1.page c b p).take M1.siz) → RB w' v2 ((M1.page c b p).drop M1.siz) → Post (.returned (.tuple #[v1, v2, .int .i64 0])) w' := fun w' v1 v2 => HF.out w' v1 v2 _ (by rw [if_neg (by omega)])
          clear HF
          have HF := Lib.hid hfin
          clear hfin
          generalize List.take M1.siz (M1.page c b p) = d at *
          generalize List.drop M1.siz (M1.page c b p) = o at *
          subst e1 e2
          clear hlen e0 hlt1 hlt2
          have hcmp := cmp_some ⟨b1, o1, none⟩ d.length c1
          obtain ⟨iu, hiu, hz0, hz1, hz2⟩ := info_parts infoU8
          obtain ⟨pq, hpq⟩ : ∃ pq, pq = w1.heap.size + 1 := ⟨_, rfl⟩
          have hb3 := (Below.refl (w1.alloc (.cells #[.int .i64 xo, .int .i64 xk, .int .i64 xc, .slice va xl.length vc] 92)).heap.size (w1.alloc (.cells #[.int .i64 xo, .int .i64 xk, .int .i64 xc, .slice va xl.length vc] 92))).alloc (Nat.le_refl _) (.cells #[.slice (some ⟨b1, o1, none⟩) d.length c1, .slice (some ⟨b2, o2, none⟩) o.length c2] 96)
          have hPB : ((w1.alloc (.cells #[.int .i64 xo, .int .i64 xk, .int .i64 xc, .slice va xl.length vc] 92)).alloc (.cells #[.slice (some ⟨b1, o1, none⟩) d.length c1, .slice (some ⟨b2, o2, none⟩) o.length c2] 96)).heap[pq]? = some (.cells #[.slice (some ⟨b1, o1, none⟩) d.length c1, .slice (some ⟨b2, o2, none⟩) o.length c2] 96 (0, 0)) := heap_is (by simp; omega)
          have hN3 := hN2.below hb3
          have hO3 := hO2.trans (Only.new hb3 fun _ => False) fun _ _ => False.elim
          have hv3 := hv1.below hb3
          have hv4 := hv2.below hb3
          have HX := Lib.hid (⟨hN3, hO3, hPB, hv3, hv4⟩ : _ ∧ _ ∧ _ ∧ _ ∧ _)
          clear hN3 hO3 hPB hv3 hv4 hb3 hv1 hv2 hN2 hO2
          go_wp2_with fail
          rw [← hpq]
          clear hpq
          obtain ⟨hN3, hO3, hPB, hv3, hv4⟩ := HX.out
          clear HX
          generalize ((w1.alloc (.cells #[.int .i64 xo, .int .i64 xk, .int .i64 xc, .slice va xl.length vc] 92)).alloc (.cells #[.slice (some ⟨b1, o1, none⟩) d.length c1, .slice (some ⟨b2, o2, none⟩) o.length c2] 96)) = w4 at hN3 hO3 hPB hv3 hv4 ⊢
          have pc0 : ∀ w', Below w4.heap.size w4 w' → w'.cell? ⟨pq, 0, none⟩ = some (.slice (some ⟨b1, o1, none⟩) d.length c1) := fun w' hb => cells_at (heap_keep hb hPB) 0 _ rfl
          have pc1 : ∀ w', Below w4.heap.size w4 w' → w'.cell? ⟨pq, 1, none⟩ = some (.slice (some ⟨b2, o2, none⟩) o.length c2) := fun w' hb => cells_at (heap_keep hb hPB) 1 _ rfl
          clear hp0 hp1 hk0 t2 t3 hQ q1 hPB
          have hv3' : RV w4.drew (.slice (some ⟨b1, o1, none⟩) d.length c1) (d.map u8v) := hv3
          have hd1000 : d.length ≤ 10000 := by have := HL1.out; omega
          have ho1000 : o.length ≤ 10000 := by have := HL2.out; omega
          clear hv3
          (refine wp_region_mix [0, 1, 3, 4, 2, 5, 6, 7, 8] [(true, true), (true, false), (true, true), (true, false), (false, true), (false, false), (true, true), (true, true), (true, true)] [0, 1, 3, 0, 8, 31, 63, 127, 255] (fun w' => Below w4.heap.size w4 w') (by kernel_rfl) (by kernel_rfl) ?_ ?_; rotate_left; simp only [pickL, List.map_cons, List.map_nil, List.getD_cons_succ, List.getD_cons_zero])
          rotate_left
          focus exact (Below.refl _ _).drew
          (repeat (first | (refine mix_pure (fun hne K hK => ?_); go_simp; refine hK _ ?_; clear hK K hne) | (refine mix_load ?_ (fun K hK => ?_); (focus (first | rfl | (go_simp; done))); apply Exists.intro; apply And.intro; (focus (intro w' hC; go_simp; exact rfl)); go_simp; refine hK _ ?_; clear hK K) | (refine mix_skip ?_ (fun K hK => ?_); (focus (first | rfl | (go_simp; done))); go_simp; refine hK _ ?_; clear hK K)))
          (refine mix_one (by first | rfl | (go_simp; done)) (fun R hR hX => ?_))
          go_wp2_with (at_builtin; (refine wpList_append_row rfl _ _ 31 rfl w4.heap.size 5 iu (.int .u8 0) 1 Try.underlying31 hiu hz0 hz1 hz2 rfl (.slice none 0 0) 0 [] rfl (World.ownsRow_nil _ _ _ _) (.slice (some ⟨b1, o1, none⟩) d.length c1) (d.map u8v) rfl hv3' (oneCell_u8 _) ?c3 ?c4 (Nat.le_refl _) ?_))
          case c3 => (try simp only [List.length_map]); unfold maxLen; omega
          case c4 => (try simp only [List.length_map]); omega
          intro u1 w5 hu1 hg1 _
          have hb5 : Below w4.heap.size w4 w5 := (Below.refl w4.heap.size w4).drew.grown hg1 (Nat.le_refl _) (fun _ h => by cases h)
          replace hu1 : RB w5 u1 d := RV.own hu1
          clear hg1 hv3'
          obtain ⟨a1, k1, rfl, -, -⟩ := hu1.form
          simp only [wpList]
          refine hR _ _ rfl ⟨_, hb5, fun _ => rfl, ?_⟩
          clear hR hX R
          have hv4' : RV w5 (.slice (some ⟨b2, o2, none⟩) o.length c2) (o.map u8v) := hv4.below hb5
          (repeat (first | (refine mix_pure (fun hne K hK => ?_); go_simp; refine hK _ ?_; clear hK K hne) | (refine mix_load ?_ (fun K hK => ?_); (focus (first | rfl | (go_simp; done))); apply Exists.intro; apply And.intro; (focus (intro w' hC; go_simp; exact rfl)); go_simp; refine hK _ ?_; clear hK K) | (refine mix_skip ?_ (fun K hK => ?_); (focus (first | rfl | (go_simp; done))); go_simp; refine hK _ ?_; clear hK K)))
          (refine mix_one (by first | rfl | (go_simp; done)) (fun R hR hX => ?_))
          go_wp2_with (at_builtin; (refine wpList_append_row rfl _ _ 31 rfl w5.heap.size 5 iu (.int .u8 0) 1 Try.underlying31 hiu hz0 hz1 hz2 rfl (.slice none 0 0) 0 [] rfl (World.ownsRow_nil _ _ _ _) (.slice (some ⟨b2, o2, none⟩) o.length c2) (o.map u8v) rfl hv4' (oneCell_u8 _) ?c3 ?c4 (Nat.le_refl _) ?_))
          case c3 => (try simp only [List.length_map]); unfold maxLen; omega
          case c4 => (try simp only [List.length_map]); omega
          intro u2 w6 hu2 hg2 _
          have hb6 : Below w5.heap.size w5 w6 := (Below.refl w5.heap.size w5).grown hg2 (Nat.le_refl _) (fun _ h => by cases h)
          replace hu2 : RB w6 u2 o := RV.own hu2
          clear hg2 hv4'
          obtain ⟨a2, k2, rfl, -, -⟩ := hu2.form
          have hb46 := hb5.trans (hb6.mono hb5.size)
          simp only [wpList]
          refine hR _ _ rfl ⟨_, hb46, fun _ => rfl, ?_⟩
          clear hR hX R
          (repeat (first | (refine mix_pure (fun hne K hK => ?_); go_simp; refine hK _ ?_; clear hK K hne) | (refine mix_load ?_ (fun K hK => ?_); (focus (first | rfl | (go_simp; done))); apply Exists.intro; apply And.intro; (focus (intro w' hC; go_simp; exact rfl)); go_simp; refine hK _ ?_; clear hK K) | (refine mix_skip ?_ (fun K hK => ?_); (focus (first | rfl | (go_simp; done))); go_simp; refine hK _ ?_; clear hK K)))
          refine mix_done ?_
          go_wp2_with fail
          exact HF.out _ _ _ (hN3.below hb46) (hO3.trans (Only.new hb46 fun _ => False) fun _ _ => False.elim) (hu1.below hb6) hu2
      · rw [if_pos hpi] at hrd
        have HR := Lib.hid hrd
        have hfin : ∀ w', NdAt true w' L M1 ∧ Only L.S w w' → Post (.returned (.tuple #[nilV, nilV, .int .i64 34])) w' := fun w' ⟨h1, h2⟩ => by
          rw [← HPOST.out, ReadEnds, HR.out]
          exact ⟨nilV, nilV, rfl, by rw [List.take_nil]; exact RB.nil _, by rw [List.drop_nil]; exact RB.nil _, h1, h2⟩
        have HF := Lib.hid hfin
        have HX := Lib.hid (⟨hN2, hO2⟩ : _ ∧ _)
        have t2 := cells_at hT 2 _ rfl
        simp only [List.getElem_toArray, List.getElem_cons_succ, List.getElem_cons_zero] at t2
        have hk' : (xk == 2) = false := by simp [hk]
        have hlq := heap_lt hQ
        have q1 := cells_at hQ 1 _ rfl
        unfold Nd.pageIn at hpi
        clear hk hrd hfin hT hQ hN2 hO2 hO hN
        by_cases hp0 : p < 0
        · clear hpi
          go_wp2_with fail
          exact HF.out _ HX.out
        · have hp1 : (M1.pgs : Int) ≤ p := by omega
          clear hpi
          go_wp2_with fail
          exact HF.out _ HX.out
  · have hrd := HRD.out
    rw [if_pos hn0] at hrd
    have HR := Lib.hid hrd
    have hfin : ∀ w' v1 v2, NdAt true w' L M1 → Only L.S w w' → RB w' v1 [] → RB w' v2 [] → Post (.returned (.tuple #[v1, v2, .int .i64 n])) w' := fun w' v1 v2 h1 h2 h3 h4 => by
      rw [← HPOST.out, ReadEnds, HR.out]
      exact ⟨v1, v2, rfl, by simpa using h3, by simpa using h4, h1, h2⟩
    have HF := Lib.hid hfin
    have hbp : blkPtr L n c b = .pointer none := if_neg hn0
    rw [hbp]
    clear hrd hfin hbp
    go_wp2_with fail
    exact HF.out _ _ _ hN2 hO2 (RB.nil _) (RB.nil _)
end Go.Proofs.Ytphnjiokihbhnaa
