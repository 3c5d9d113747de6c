/- Plain laws: one byte that is turned turns the sum; bytes of chips, one of them turned, are no chips' bytes. -/
--only r2
import Derived.Test.YtphnjiokihbhnaaCrcLin
import Derived.Test.YtphnjiokihbhnaaLoadSpec
namespace Go.Proofs.Ytphnjiokihbhnaa
set_option linter.unusedVariables false
set_option linter.unusedSimpArgs false

theorem xor_eq0 {a b : BitVec 32} (h : a ^^^ b = 0#32) : a = b := by
  have h1 : (a ^^^ b) ^^^ b = 0#32 ^^^ b := by rw [h]
  rw [BitVec.xor_assoc, BitVec.xor_self, BitVec.xor_zero, BitVec.zero_xor] at h1
  exact h1
theorem crcByte_inj {s t : BitVec 32} {c d : UInt8} (h : crcByte s c = crcByte t d) : s ^^^ t = wd (c ^^^ d) := by
  have h1 : crcByte (s ^^^ t) (c ^^^ d) = 0#32 := by rw [crcByte_xor, h, BitVec.xor_self]
  exact xor_eq0 (crcBits_inj0 8 _ h1)
theorem wd_self (c : UInt8) : wd (c ^^^ c) = 0#32 := by
  unfold wd; rw [UInt8.toBitVec_xor, BitVec.xor_self]; rfl
theorem wd_inj {c d : UInt8} (h : wd (c ^^^ d) = 0#32) : c = d := by
  unfold wd at h
  have h2 := congrArg (BitVec.setWidth 8) h
  rw [BitVec.setWidth_setWidth_of_le _ (by omega), BitVec.setWidth_eq, UInt8.toBitVec_xor] at h2
  have h3 : c.toBitVec = d.toBitVec := by
    have h4 : (c.toBitVec ^^^ d.toBitVec) ^^^ d.toBitVec = (BitVec.setWidth 8 0#32) ^^^ d.toBitVec := by rw [h2]
    rw [BitVec.xor_assoc, BitVec.xor_self, BitVec.xor_zero] at h4
    rw [h4]; simp
  exact UInt8.toBitVec_inj.mp h3
theorem crcFold_inj (l : List UInt8) : ∀ {s t : BitVec 32}, crcFold s l = crcFold t l → s = t := by
  induction l with
  | nil => intro s t h; exact h
  | cons c l ih =>
    intro s t h
    have := crcByte_inj (ih (show crcFold (crcByte s c) l = crcFold (crcByte t c) l from h))
    rw [wd_self] at this
    exact xor_eq0 this
theorem crcOf_set (l : List UInt8) (i : Nat) (c : UInt8) (hi : i < l.length) (h : crcOf (l.set i c) = crcOf l) : c = l[i] := by
  unfold crcOf at h
  have h1 : crcFold 4294967295#32 (l.set i c) = crcFold 4294967295#32 l := by
    have := congrArg (fun x => ~~~ x) h
    simpa using this
  have e1 : l.set i c = l.take i ++ ([c] ++ l.drop (i + 1)) := by rw [List.set_eq_take_append_cons_drop, if_pos hi]; rfl
  have e2 : l = l.take i ++ ([l[i]] ++ l.drop (i + 1)) := by simp
  rw [e1] at h1
  conv at h1 => rhs; rw [e2]
  rw [crcFold_append, crcFold_append, crcFold_append, crcFold_append] at h1
  have h2 := crcByte_inj (show crcByte _ c = crcByte _ l[i] from crcFold_inj _ h1)
  rw [BitVec.xor_self] at h2
  exact wd_inj h2.symm
theorem le4_len (x : Nat) : (leAll 4 [x]).length = 4 := by rw [leAll_length]; rfl
theorem le4_inj {x y : Nat} (hx : x < 4294967296) (hy : y < 4294967296) (h : leAll 4 [x] = leAll 4 [y]) : x = y := by
  simp only [leAll, List.flatMap_cons, List.flatMap_nil, List.append_nil] at h
  rw [← leNum_le 4 x (by omega), ← leNum_le 4 y (by omega), h]
/-- bytes of chips, one of them turned, are no chips' bytes -/
theorem dump_turn (M M' : Nd) (i : Nat) (c : UInt8) (hi : i < (dumpB M).length) (h : dumpB M' = (dumpB M).set i c) : c = (dumpB M)[i] := by
  have hl := congrArg List.length h
  rw [List.length_set] at hl
  unfold dumpB at h hl hi ⊢
  have hb1 := (crcOf (bodyB M)).isLt
  have hb2 := (crcOf (bodyB M')).isLt
  simp only [List.length_append, le4_len] at hl hi
  have hl' : (bodyB M').length = (bodyB M).length := by omega
  by_cases hlt : i < (bodyB M).length
  · rw [List.set_append_left _ _ hlt] at h
    obtain ⟨e1, e2⟩ := List.append_inj h (by rw [List.length_set]; exact hl')
    have e3 := BitVec.eq_of_toNat_eq (le4_inj hb2 hb1 e2)
    rw [e1] at e3
    rw [List.getElem_append_left hlt]
    exact crcOf_set _ _ _ hlt e3
  · rw [List.set_append_right _ _ (by omega)] at h
    obtain ⟨e1, e2⟩ := List.append_inj h hl'
    rw [e1] at e2
    rw [List.getElem_append_right (by omega)]
    have ht : i - (bodyB M).length < (leAll 4 [(crcOf (bodyB M)).toNat]).length := by rw [le4_len]; omega
    have := congrArg (fun l : List UInt8 => l[i - (bodyB M).length]?) e2
    simp only [List.getElem?_set_self ht, List.getElem?_eq_getElem ht] at this
    exact (Option.some.inj this).symm
end Go.Proofs.Ytphnjiokihbhnaa
