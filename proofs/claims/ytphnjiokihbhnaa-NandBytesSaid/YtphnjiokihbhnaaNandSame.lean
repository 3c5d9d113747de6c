/- nand.Same. -/
--only r2
import Derived.Test.YtphnjiokihbhnaaMix
import Derived.Test.YtphnjiokihbhnaaNandDump
import Derived.Test.YtphnjiokihbhnaaStr
/- XMix, where the class of worlds may grow narrower at a hard operation though loads are pending. -/
namespace Go.Proofs.Ytphnjiokihbhnaa
set_option linter.unusedVariables false
set_option linter.unusedSimpArgs false

section
variable {P : Program}

/-- the walk in the order of the text; of each operation: is it soft; a soft one: is it pure; a hard one: may loads still be pending -/
def wpMixUp (P : Program) (ops : Array Oper) (Q : Exit → Act → World → Prop) : List (Bool × Bool) → List Oper → (World → Prop) → Act → World → Prop
  | (true, b) :: fs, o :: rest, C, a, w => ∃ v, softAt P ops o (cls b C) v a ∧ wpMixUp P ops Q fs rest C (a.put o.dst v) w
  | (false, keep) :: fs, o :: rest, C, a, w =>
    if Region.wanted o (yielded ops a.tmps) then o.wp P a w (fun a' w' => a'.defers = a.defers ∧ ∃ C' : World → Prop, C' w' ∧ (keep = true → ∀ w, C' w → C w) ∧ wpMixUp P ops Q fs rest C' a' w') (outQ Q) ∨ (o.asks P a w ∧ LetsOut Q)
    else wpMixUp P ops Q fs rest C (a.put o.dst undef) w
  | _, [], _, a, w => Q .normal a w
  | [], _ :: _, _, _, _ => False

variable {ops : Array Oper} {tab : Nat → Option Oper} {C : World → Prop} {F : List (Bool × Bool)}
theorem soft_mono {o : Oper} {C C' : World → Prop} {b : Bool} {v : Value} {a : Act} (hm : ∀ w, C' w → C w) (h : softAt P ops o (cls b C) v a) : softAt P ops o (cls b C') v a := by
  rcases h with ⟨h1, h2⟩ | h
  · refine .inl ⟨h1, fun w' hw => h2 w' ?_⟩
    cases b
    · exact hm w' hw
    · trivial
  · exact .inr h
theorem pend_mono {C' : World → Prop} {D : List (Nat × Value)} {a : Act} (hm : ∀ w, C' w → C w) (h : PendOk P ops tab F C D a) : PendOk P ops tab F C' D a := by
  induction D generalizing a with
  | nil => trivial
  | cons d D ih => exact ⟨fun oi hoi => soft_mono hm (h.1 oi hoi), ih h.2⟩


theorem mixup_any {perm : List Nat} {F : List (Bool × Bool)} {B : List Nat} {Q : Exit → Act → World → Prop} (ok : MixOk ops perm F B) : ∀ (fuel n : Nat) (D : List (Nat × Value)) (listed : Array Bool) (a : Act) (w : World) (C : World → Prop),
    MixInv P ops perm F C n D listed a w → fuel = (ops.size - n) + D.length → wpMixUp P ops Q (F.drop n) ((pickL ops.toList perm).drop n) C (putAll (atPlace ops perm) D a) w → wpAny P .any ops Q fuel listed a w := by
  have hsel0 := Region.noSelect_spec ok.sel
  have hsel : ∀ (p : Nat) (o : Oper) cs b, atPlace ops perm p = some o → o.op ≠ .select cs b := fun p o cs b h => hsel0 _ o cs b (place_at h)
  have hplen : (pickL ops.toList perm).length = ops.size := by simp [pickL, ok.plen]
  intro fuel
  induction fuel with
  | zero =>
    intro n D listed a w C inv hf hw
    have hD : D = [] := List.length_eq_zero_iff.mp (by omega)
    subst hD
    have hn : n = ops.size := by have := inv.le; omega
    subst hn
    refine ⟨?_, ?_⟩
    · cases hr : Region.ready .any ops listed with
      | nil => rfl
      | cons j rs =>
        obtain ⟨oj, hoj, hu, _⟩ := ready_lt (ops := ops) (listed := listed) (j := j) (by rw [hr]; exact List.mem_cons_self)
        have hj := (Array.getElem?_eq_some_iff.1 hoj).1
        rw [getD_ft (by rw [inv.size]; exact hj)] at hu
        obtain ⟨p, hp, he, _⟩ := place_of ok hj
        rcases inv.done p hp with h | ⟨v, h⟩
        · rw [he, hu] at h; cases h
        · cases h
    · have e1 : (pickL ops.toList perm).drop ops.size = [] := by simp [hplen]
      rw [e1] at hw
      cases hF : F.drop ops.size with
      | nil => rw [hF] at hw; exact hw
      | cons f fs => rw [hF] at hw; obtain ⟨s, k⟩ := f; cases s <;> exact hw
  | succ f ih =>
    -- a soft operation that the text has passed comes up
    have pendcase : ∀ (n : Nat) (D : List (Nat × Value)) (listed : Array Bool) (a : Act) (w : World) (C : World → Prop), MixInv P ops perm F C n D listed a w → f + 1 = (ops.size - n) + D.length →
        wpMixUp P ops Q (F.drop n) ((pickL ops.toList perm).drop n) C (putAll (atPlace ops perm) D a) w → ∀ p, p < n → perm.getD p 0 ∈ Region.ready .any ops listed → wpOp P ops Q (perm.getD p 0) (wpAny P .any ops Q f (listed.setIfInBounds (perm.getD p 0) true)) a w := by
      intro n D listed a w C inv hf hw p hpn hj
      obtain ⟨oj, hoj, hu, hwj⟩ := ready_lt hj
      have hjs := (Array.getElem?_eq_some_iff.1 hoj).1
      have hps : p < ops.size := by have := inv.le; omega
      have hop : atPlace ops perm p = some oj := by
        have hpl : p < perm.length := by rw [ok.plen]; exact hps
        have : perm.getD p 0 = perm[p] := by simp [List.getD, hpl]
        rw [this] at hoj
        simp [atPlace, hpl, hoj]
      rw [getD_ft (by rw [inv.size]; exact hjs)] at hu
      rcases inv.done p hpn with h | ⟨v, h⟩
      · rw [h] at hu; cases hu
      obtain ⟨s, t, rfl⟩ := List.append_of_mem h
      have hsort := inv.sorted
      simp only [List.map_append, List.map_cons, List.pairwise_append, List.pairwise_cons, List.mem_map, List.mem_cons] at hsort
      obtain ⟨hs1, ⟨hs2, hs3⟩, hs4⟩ := hsort
      have hlt : ∀ d ∈ s, d.1 < p := fun d hd => hs4 d.1 ⟨d, hd, rfl⟩ p (.inl rfl)
      have hgt : ∀ d ∈ t, p < d.1 := fun d hd => hs2 d.1 ⟨d, hd, rfl⟩
      have hap : ApartAll ops (atPlace ops perm) s oj := fun d hd od hod => by
        refine (ok.free d.1 p od oj (hlt d hd) hps hod hop ?_).1
        cases hb : (B.getD (perm.getD p 0) 0).testBit (perm.getD d.1 0) with
        | false => rfl
        | true =>
          have h1 := waited ok inv.closed _ _ (Nat.le_refl _) oj hoj hwj (perm.getD d.1 0) (Array.getElem?_eq_some_iff.1 (place_at hod)).1 hb
          rw [(inv.pend d (by simp [hd])).2] at h1; cases h1
      obtain ⟨s1, s2, s3⟩ := pend_remove hsel hop hap inv.yields
      have inv' : MixInv P ops perm F C n (s ++ t) (listed.setIfInBounds (perm.getD p 0) true) (a.put oj.dst v) w := by
        refine inv.set ok hps hoj hwj inv.le hpn (Nat.le_refl _) (fun i hi hij => ?_) (fun d hd => ?_) ?_ s2 inv.cls
        · rcases inv.done i hi with h | ⟨u, h⟩
          · exact .inl h
          · refine .inr ⟨u, ?_⟩
            simp only [List.mem_append, List.mem_cons, Prod.mk.injEq] at h ⊢
            rcases h with h | ⟨h, _⟩ | h
            · exact .inl h
            · exact absurd h hij
            · exact .inr h
        · have hm : d ∈ s ++ (p, v) :: t := by simp only [List.mem_append, List.mem_cons] at hd ⊢; exact hd.elim .inl (fun h => .inr (.inr h))
          obtain ⟨p1, p2⟩ := inv.pend d hm
          refine ⟨p1, p2, ?_⟩
          rcases List.mem_append.1 hd with h | h
          · have := hlt d h; omega
          · have := hgt d h; omega
        · simp only [List.map_append, List.pairwise_append, List.mem_map]
          exact ⟨hs1, hs3, fun x hx y hy => hs4 x hx y (.inr hy)⟩
      have hfin := ih n (s ++ t) (listed.setIfInBounds (perm.getD p 0) true) (a.put oj.dst v) w C inv' (by simp at hf ⊢; omega) (by rw [s3]; exact hw)
      unfold wpOp
      simp only [hoj]
      rcases s1 with ⟨hwant, hrun⟩ | ⟨hno, rfl⟩
      · rw [if_pos hwant]
        refine .inl ?_
        unfold Oper.wp
        rw [hrun w (cls_of inv.cls)]
        exact hfin
      · rw [if_neg (by rw [hno]; simp)]
        exact hfin
    -- the inner walk: how far the text is behind the operation that comes up
    have inner : ∀ (k n : Nat) (D : List (Nat × Value)) (listed : Array Bool) (a : Act) (w : World) (C : World → Prop), ops.size - n = k → MixInv P ops perm F C n D listed a w → f + 1 = (ops.size - n) + D.length →
        wpMixUp P ops Q (F.drop n) ((pickL ops.toList perm).drop n) C (putAll (atPlace ops perm) D a) w → ∀ q, q < ops.size → perm.getD q 0 ∈ Region.ready .any ops listed → wpOp P ops Q (perm.getD q 0) (wpAny P .any ops Q f (listed.setIfInBounds (perm.getD q 0) true)) a w := by
      intro k
      induction k with
      | zero =>
        intro n D listed a w C hk inv hf hw q hq hj
        have hn : n = ops.size := by have := inv.le; omega
        exact pendcase n D listed a w C inv hf hw q (by omega) hj
      | succ k ihk =>
        intro n D listed a w C hk inv hf hw q hq hj
        by_cases hjn : q < n
        · exact pendcase n D listed a w C inv hf hw q hjn hj
        have hn : n < ops.size := by omega
        have hnF : n < F.length := by rw [ok.len]; exact hn
        have hnp : n < perm.length := by rw [ok.plen]; exact hn
        obtain ⟨on, hpn, hopn, hon⟩ := at_place ok hn
        have eO : (pickL ops.toList perm).drop n = on :: (pickL ops.toList perm).drop (n + 1) := pickL_drop hpn (by simpa using hopn)
        have eF : F.drop n = F[n] :: F.drop (n + 1) := List.drop_eq_getElem_cons hnF
        have eFn : F.getD n (false, false) = F[n] := by simp [List.getD, hnF]
        rw [eO, eF] at hw
        obtain ⟨oj, hoj, hu, hwj⟩ := ready_lt hj
        have hjs := (Array.getElem?_eq_some_iff.1 hoj).1
        have hapn : ∀ d ∈ D, ∀ od, atPlace ops perm d.1 = some od → (∀ k ∈ waits on, listed.getD k false = true) → Oper.apart ops od on = true ∧ ((F.getD n (false, false)).1 = true ∨ (F.getD n (false, false)).2 = true ∨ (F.getD d.1 (false, false)).2 = true) := fun d hd od hod hwn => by
          obtain ⟨p1, p2⟩ := inv.pend d hd
          have := ok.free d.1 n od on p1 hn hod hon (by
            cases hb : (B.getD (perm.getD n 0) 0).testBit (perm.getD d.1 0) with
            | false => rfl
            | true =>
              have h1 := waited ok inv.closed _ _ (Nat.le_refl _) on hopn hwn (perm.getD d.1 0) (Array.getElem?_eq_some_iff.1 (place_at hod)).1 hb
              rw [p2] at h1; cases h1)
          exact ⟨this.1, this.2.2⟩
        obtain ⟨sf, kp, hfl⟩ : ∃ sf kp, F[n] = (sf, kp) := ⟨_, _, rfl⟩
        rw [hfl] at hw eFn
        rw [eFn] at hapn
        cases sf with
        | true =>
          obtain ⟨v, hy, hw'⟩ := hw
          have hdn : (atPlace ops perm n).bind (·.dst) = on.dst := by rw [hon]; rfl
          have hpa : putAll (atPlace ops perm) (D ++ [(n, v)]) a = (putAll (atPlace ops perm) D a).put on.dst v := by
            rw [putAll_append]
            show (putAll (atPlace ops perm) D a).put ((atPlace ops perm n).bind (·.dst)) v = _
            rw [hdn]
          refine ihk (n + 1) (D ++ [(n, v)]) listed a w C (by omega) ?_ (by simp; omega) (by rw [hpa]; exact hw') q hq hj
          refine ⟨inv.size, hn, inv.closed, fun i hi => ?_, fun i hi hi2 => inv.fresh i (by omega) hi2, fun d hd => ?_, ?_, pend_append inv.yields fun oi hoi => ?_, inv.cls⟩
          · by_cases hin : i = n
            · subst hin; exact .inr ⟨v, by simp⟩
            · rcases inv.done i (by omega) with h | ⟨u, h⟩
              · exact .inl h
              · exact .inr ⟨u, List.mem_append_left _ h⟩
          · rcases List.mem_append.1 hd with h | h
            · obtain ⟨p1, p2⟩ := inv.pend d h; exact ⟨by omega, p2⟩
            · have : d = (n, v) := by simpa using h
              subst this
              exact ⟨Nat.lt_succ_self n, inv.fresh n (Nat.le_refl _) hn⟩
          · simp only [List.map_append, List.map_cons, List.map_nil, List.pairwise_append, List.mem_map]
            refine ⟨inv.sorted, by simp, fun x ⟨d, hd, hx⟩ y hy => ?_⟩
            have := (inv.pend d hd).1
            have : y = n := by simpa using hy
            omega
          · have : oi = on := Option.some.inj (hoi.symm.trans hon)
            subst this; rw [eFn]; exact hy
        | false =>
          have hjn' : q = n := by
            by_cases h : q = n
            · exact h
            · exfalso
              have hnj : n < q := by omega
              obtain ⟨oq, _, hoq1, hoq⟩ := at_place ok hq
              have : oq = oj := Option.some.inj (hoq1.symm.trans hoj)
              subst this
              cases hb : (B.getD (perm.getD q 0) 0).testBit (perm.getD n 0) with
              | true =>
                have h1 := waited ok inv.closed _ _ (Nat.le_refl _) oq hoj hwj (perm.getD n 0) (Array.getElem?_eq_some_iff.1 hopn).1 hb
                rw [inv.fresh n (Nat.le_refl _) hn] at h1; cases h1
              | false =>
                have := (ok.free n q on oq hnj hq hon hoq hb).2.1
                rw [eFn] at this; cases this
          subst hjn'
          have : oj = on := Option.some.inj (hoj.symm.trans hopn)
          subst this
          have hap : ApartAll ops (atPlace ops perm) D oj := fun d hd od hod => (hapn d hd od hod hwj).1
          have hkeep : kp = false → ∀ d ∈ D, (F.getD d.1 (false, false)).2 = true := fun hkp d hd => by
            obtain ⟨p1, _⟩ := inv.pend d hd
            obtain ⟨od, _, _, hod⟩ := at_place ok (p := d.1) (by omega)
            rcases (hapn d hd od hod hwj).2 with h | h | h
            · cases h
            · rw [hkp] at h; cases h
            · exact h
          obtain ⟨he, hwt⟩ := exec_putAll (fun cs b => hsel q oj cs b hon) hap a
          -- what comes behind it
          have next : ∀ (u : Value) (w' : World) (C' : World → Prop), C' w' → (kp = true → ∀ w, C' w → C w) → wpMixUp P ops Q (F.drop (q + 1)) ((pickL ops.toList perm).drop (q + 1)) C' ((putAll (atPlace ops perm) D a).put oj.dst u) w' →
              wpAny P .any ops Q f (listed.setIfInBounds (perm.getD q 0) true) (a.put oj.dst u) w' := fun u w' C' hc hk' hw' => by
            refine ih (q + 1) D (listed.setIfInBounds (perm.getD q 0) true) (a.put oj.dst u) w' C' ?_ (by omega) (by rw [putAll_put hap]; exact hw')
            refine inv.set ok hn hoj hwj hn (Nat.lt_succ_self q) (Nat.le_succ q) (fun i hi hij => inv.done i (by omega)) (fun d hd => ?_) inv.sorted ?_ hc
            · obtain ⟨p1, p2⟩ := inv.pend d hd; exact ⟨by omega, p2, by omega⟩
            · cases kp with
              | true => exact pend_mono (hk' rfl) (pend_put hsel hap u inv.yields)
              | false => exact pend_pure (C := C) (hkeep rfl) (pend_put hsel hap u inv.yields)
          unfold wpOp
          simp only [hoj]
          simp only [wpMixUp] at hw
          rw [hwt] at hw
          split
          · rename_i hwant
            rw [if_pos hwant] at hw
            refine hw.imp (fun hw => ?_) (fun hw => ⟨by unfold Oper.asks at hw ⊢; rw [he] at hw; exact hw.1, hw.2⟩)
            unfold Oper.wp at hw ⊢
            rw [he] at hw
            generalize (execOp a.eval oj).run P w = r at hw ⊢
            have hdf : ∀ (u : Value), ((putAll (atPlace ops perm) D a).put oj.dst u).defers = (putAll (atPlace ops perm) D a).defers := fun u => put_defers' _ _ _
            cases r with
            | ok nx w' =>
              cases nx <;> simp only [Oper.upon] at hw ⊢
              case value u => obtain ⟨_, C', h1, h2, h3⟩ := hw; exact next u w' C' h1 h2 h3
              case skip => obtain ⟨_, C', h1, h2, h3⟩ := hw; exact next undef w' C' h1 h2 h3
              case defer d =>
                obtain ⟨h0, _⟩ := hw
                rw [put_defers'] at h0
                have := congrArg List.length h0
                simp at this
              case enter g args =>
                refine Calls.mono hw fun e w'' h => ?_
                cases e with
                | returned u => obtain ⟨_, C', h1, h2, h3⟩ := h; exact next u w'' C' h1 h2 h3
                | panicked c => exact h a (by rw [putAll_defers])
                | outgrown => exact outQ_lets h
              case row row args =>
                refine Rows.mono hw fun u w'' h => ?_
                obtain ⟨_, C', h1, h2, h3⟩ := h; exact next u w'' C' h1 h2 h3
            | halt x w' =>
              cases x <;> simp only [Oper.upon] at hw
              case panic u => exact hw a (by rw [putAll_defers])
          · rename_i hno
            rw [if_neg hno] at hw
            exact next undef w C inv.cls (fun _ _ h => h) hw
    intro n D listed a w C inv hf hw
    refine ⟨fun h0 => ?_, fun j hj => ?_⟩
    · exfalso
      by_cases hn : n < ops.size
      · exact some_ready ok inv.size (by obtain ⟨o, _, h, _⟩ := at_place ok hn; exact (Array.getElem?_eq_some_iff.1 h).1) (inv.fresh n (Nat.le_refl _) hn) h0
      · cases D with
        | nil => simp at hf; omega
        | cons d D =>
          obtain ⟨h1, h2⟩ := inv.pend d List.mem_cons_self
          exact some_ready ok inv.size (by obtain ⟨o, _, h, _⟩ := at_place ok (p := d.1) (by have := inv.le; omega); exact (Array.getElem?_eq_some_iff.1 h).1) h2 h0
    · obtain ⟨oj, hoj, _, _⟩ := ready_lt hj
      obtain ⟨q, hq, he, _⟩ := place_of ok (Array.getElem?_eq_some_iff.1 hoj).1
      subst he
      exact inner _ n D listed a w C rfl inv hf hw q hq hj


/-- **A region that draws its order, by one walk of its operations, in an order of one's own.** -/
theorem wp_region_mixup {id : Nat} {Q : Exit → Act → World → Prop} {a : Act} {w : World} {l : List Oper} (perm : List Nat) (F : List (Bool × Bool)) (B : List Nat) (C : World → Prop) (hm : P.follows .mixedOrders = true) (hB : mixOk l.toArray perm F B = true)
    (hC : C w.drew) (h : wpMixUp P l.toArray Q F (pickL l perm) C a w.drew) : (Code.region id l.toArray true).wp P Q a w := by
  have ok := mixOk_spec hB
  refine wp_region_any hm ?_
  have hz : ∀ i, (Array.replicate l.toArray.size false).getD i false = false := fun i => by
    by_cases h : i < l.length <;> simp [h]
  refine mixup_any ok l.toArray.size 0 [] _ a _ C ⟨by simp, Nat.zero_le _, fun j oj _ h => ?_, fun i hi => (by omega), fun i _ _ => hz _, fun d hd => (by cases hd), List.Pairwise.nil, trivial, hC⟩ (by simp) h
  rw [hz] at h; cases h

section
variable {Q : Exit → Act → World → Prop} {fs : List (Bool × Bool)} {rest : List Oper} {o : Oper} {a : Act} {w : World}
/-- a pure operation -/
theorem mixup_pure (h : Nonempty World → ∀ K : Act → Prop, (∀ a, wpMixUp P ops Q fs rest C a w → K a) → if Region.wanted o (yielded ops a.tmps) then ∃ v, (∀ w', (execOp a.eval o).run P w' = .ok (.value v) w') ∧ K (a.put o.dst v) else K (a.put o.dst undef)) :
    wpMixUp P ops Q ((true, true) :: fs) (o :: rest) C a w := by
  have := h ⟨w⟩ _ (fun _ h => h)
  split at this
  · rename_i hw; obtain ⟨v, h1, h2⟩ := this; exact ⟨v, .inl ⟨hw, fun w' _ => h1 w'⟩, h2⟩
  · rename_i hw; exact ⟨undef, .inr ⟨by simpa using hw, rfl⟩, this⟩
/-- a load -/
theorem mixup_load (hw : Region.wanted o (yielded ops a.tmps) = true) (h : ∀ K : Act → Prop, (∀ a, wpMixUp P ops Q fs rest C a w → K a) → ∃ v, (∀ w', C w' → (execOp a.eval o).run P w' = .ok (.value v) w') ∧ K (a.put o.dst v)) :
    wpMixUp P ops Q ((true, false) :: fs) (o :: rest) C a w := by
  obtain ⟨v, h1, h2⟩ := h _ (fun _ h => h)
  exact ⟨v, .inl ⟨hw, h1⟩, h2⟩
theorem mixup_skip {s b : Bool} (hw : Region.wanted o (yielded ops a.tmps) = false) (h : ∀ K : Act → Prop, (∀ a, wpMixUp P ops Q fs rest C a w → K a) → K (a.put o.dst undef)) :
    wpMixUp P ops Q ((s, b) :: fs) (o :: rest) C a w := by
  have := h _ (fun _ h => h)
  cases s with
  | true => exact ⟨undef, .inr ⟨hw, rfl⟩, this⟩
  | false => simp only [wpMixUp]; rw [if_neg (by rw [hw]; simp)]; exact this
/-- a hard operation: what stands behind it is asked in a class of one's own choice (the same one, where loads may be pending) -/
theorem mixup_hard {keep : Bool} (hw : Region.wanted o (yielded ops a.tmps) = true) (h : ∀ K : Act → World → Prop, (∀ a' w', a'.defers = a.defers → (∃ C' : World → Prop, C' w' ∧ (keep = true → ∀ w, C' w → C w) ∧ wpMixUp P ops Q fs rest C' a' w') → K a' w') → o.wp P a w K (outQ Q)) :
    wpMixUp P ops Q ((false, keep) :: fs) (o :: rest) C a w := by
  simp only [wpMixUp]
  rw [if_pos hw]
  exact .inl (h _ (fun _ _ h1 h2 => ⟨h1, h2⟩))
/-- the same, as a walk of one operation -/
theorem mixup_one {keep : Bool} (hw : Region.wanted o (yielded ops a.tmps) = true) (h : ∀ R : Exit → Act → World → Prop, (∀ a' w', a'.defers = a.defers → (∃ C' : World → Prop, C' w' ∧ (keep = true → ∀ w, C' w → C w) ∧ wpMixUp P ops Q fs rest C' a' w') → R .normal a' w') →
      (∀ e a' w', e ≠ .normal → (∀ a'', a''.defers = a'.defers → Q e a'' w') → R e a' w') → wpList P ops R [o] a w) :
    wpMixUp P ops Q ((false, keep) :: fs) (o :: rest) C a w := by
  simp only [wpMixUp]
  rw [if_pos hw]
  have := h (fun e a' w' => match e with
    | .normal => a'.defers = a.defers ∧ ∃ C' : World → Prop, C' w' ∧ (keep = true → ∀ w, C' w → C w) ∧ wpMixUp P ops Q fs rest C' a' w'
    | e => ∀ a'', a''.defers = a'.defers → Q e a'' w') (fun a' w' h1 h2 => ⟨h1, h2⟩) (fun e a' w' he hq => by cases e <;> first | exact absurd rfl he | exact hq)
  simp only [wpList] at this
  rw [if_pos hw] at this
  refine this.imp (fun h => ?_) (fun h => ⟨h.1, ?_⟩)
  · unfold Oper.wp at h ⊢
    generalize (execOp a.eval o).run P w = r at h ⊢
    cases r with
    | ok nx w' =>
      cases nx <;> simp only [Oper.upon] at h ⊢ <;> exact h
    | halt x w' => cases x <;> simp only [Oper.upon] at h ⊢ <;> exact h
  · obtain ⟨_, a, w, h⟩ := h; exact ⟨a, w, h a rfl⟩
theorem mixup_done (h : Q .normal a w) : wpMixUp P ops Q [] [] C a w := h
end
end
end Go.Proofs.Ytphnjiokihbhnaa
namespace Go.Proofs.Ytphnjiokihbhnaa
set_option linter.unusedVariables false
set_option linter.unusedSimpArgs false
open Go.RowKit

theorem str_eq (l m : List UInt8) : ((strOf l).toList == (strOf m).toList) = decide (l = m) := by
  unfold strOf
  rw [ByteArray.toList_mk, ByteArray.toList_mk]
  by_cases h : l = m
  · rw [decide_eq_true h]; simp [h]
  · rw [decide_eq_false h]; simp [h]

set_option maxRecDepth 100000 in
set_option maxHeartbeats 2000000 in
theorem nsame_calls {w : World} {L L2 : NdLay} {M M2 : Nd} (h : NdAt true w L M) (h2 : NdAt true w L2 M2) :
    Calls Try.prog 33 #[ptrV L.p, ptrV L2.p] w fun e w' => e = .returned (.bool (decide (dumpB M = dumpB M2))) ∧ Below w.heap.size w w' := by
  have hd1 := ndump_calls h.drew
  have HD := Lib.hid (⟨hd1, h2⟩ : _ ∧ _)
  clear hd1 h h2
  go_enter Try.func33, Try.ntmps33
  go_wp2_with fail
  refine wp_region_mixup [0, 3, 1, 2, 4, 5, 6, 7] [(true, true), (true, true), (false, false), (true, false), (false, true), (true, false), (true, true), (true, true)] [0, 1, 3, 0, 11, 27, 63, 127] (fun w' => w' = w.drew) (by kernel_rfl) (by kernel_rfl) rfl ?_
  simp only [pickL, List.map_cons, List.map_nil, List.getD_cons_succ, List.getD_cons_zero]
  iterate 2
    refine mixup_pure (fun hne K hK => ?_); go_simp; refine hK _ ?_; clear hK K hne
  refine mixup_one (by first | rfl | (go_simp; done)) (fun R hR hX => ?_)
  go_wp2_with fail
  refine (HD.out.1).mono ?_
  rintro e w1 ⟨x1, rfl, ho1, hb1⟩
  have hb1' : Below w.heap.size w w1 := (Below.refl _ _).drew.trans hb1
  have hr1 : RB w1 x1 (dumpB M) := RV.own ho1
  have hd2 := ndump_calls (HD.out.2.below hb1')
  have h1s : ∀ w', Below w1.heap.size w1 w' → (convert 31 9 x1).run Try.prog w' = .ok (.string (strOf (dumpB M))) w' := fun w' hb => run_str (hr1.below hb)
  have HD2 := Lib.hid (⟨hd2, hb1', hr1, ho1⟩ : _ ∧ _ ∧ _ ∧ _)
  clear hd2 hb1' hr1 ho1 hb1 HD
  go_wp2_with fail
  (try simp only [wpList]); refine hR _ _ rfl ⟨fun w' => Below w1.heap.size w1 w', Below.refl _ _, (fun h => by cases h), ?_⟩; clear hR hX R
  refine mixup_load ?_ (fun K hK => ?_)
  · first | rfl | (go_simp; done)
  · apply Exists.intro
    apply And.intro
    · intro w' hC
      have := h1s w' hC
      go_simp
      exact rfl
    go_simp
    refine hK _ ?_
    clear hK K
    refine mixup_one (by first | rfl | (go_simp; done)) (fun R hR hX => ?_)
    go_wp2_with fail
    refine (HD2.out.1).mono ?_
    rintro e w2 ⟨x2, rfl, ho2, hb2⟩
    have hr2 : RB w2 x2 (dumpB M2) := RV.own ho2
    have h2s := run_str hr2
    have HE := Lib.hid (⟨HD2.out.2.1.trans (hb2.mono HD2.out.2.1.size), ho2⟩ : _ ∧ _)
    have hb2' : ∀ w', w' = w2 → Below w1.heap.size w1 w' := fun w' h => h ▸ hb2
    have HB2 := Lib.hid hb2'
    clear hr2 ho2 HD2 hb2 hb2'
    go_wp2_with fail
    (try simp only [wpList]); refine hR _ _ rfl ⟨fun w' => w' = w2, rfl, (fun _ => HB2.out), ?_⟩; clear hR hX R
    refine mixup_load ?_ (fun K hK => ?_)
    · first | rfl | (go_simp; done)
    · apply Exists.intro
      apply And.intro
      · intro w' hC
        rw [show w' = w2 from hC]
        go_simp
        exact rfl
      go_simp
      refine hK _ ?_
      clear hK K
      iterate 2
        refine mixup_pure (fun hne K hK => ?_); go_simp; refine hK _ ?_; clear hK K hne
      refine mixup_done ?_
      go_wp2_with fail
      go_ret
      refine ⟨?_, HE.out.1⟩
      rw [← str_eq]
      rfl
end Go.Proofs.Ytphnjiokihbhnaa
