/-
  No cell of these rows narrows 'for every input' (looked for: loops, veiled, ifaces, maps, wideKeys, modest, calm, conditions, laid).
  DERIVED. THE GIVEN ROWS OF THIS SEAT. 16 by the template 'for every input the law returns true; each argument reads behind the call as it read before'; 0 by the template 'total and deterministic' (their statements: YtoalihddfgehjaaTotals.lean).
  GIVEN WITH THE SEED: the statements are not yours to turn. If you find one false, say at which input.
  Laid BY PROGRAM, IN A SANDBOX (cutbox-rows.mjs): the forced cells as the released guide's own fill.sh prints them over the translation cae279e86b0ff53a… (all of the seat's roots in one cut). By AI agents, Wed Nov 11 2026. No macro, syntax, notation, axiom, sorry.
-/
import Derived.Test.YtoalihddfgehjaaChecked
import GoSem.Claim
import GoSem.ClaimJoined
import GoSem.ClaimMapViews
import Derived.JoinedTies
import Derived.KernelRfl
namespace Go.Proofs.Ytoalihddfgehjaa
/- THE CELL 'sum', in the pinned program and in every row, IS THE sha256 OF THE DUMP (.gsa) THAT YtoalihddfgehjaaProg.lean LOADS. Nothing in Lean hashes anything: it is a label: what it is worth is what the hold of that sum in a sandbox is worth. -/
noncomputable def Try.pinned : Pinned := { name := "ytoalihddfgehjaa", sum := "cae279e86b0ff53a74865284826f2596aa241c794bff58c11dc7a4e92985c485", checked := Try.checked }
namespace Rows
def none {H : Type} : Left H := { results := [], args := [] }

/-- 'gabionlaw02.SumOf': WHATEVER THE INPUT: true; the input reads as it did. -/
def sumOfSpec : ChangeSpec := { name := "sumOf", fn := fun _ => fun
  | [d] => { results := [.lit (.bool true)], args := [d] }
  | _ => none }
def sumOfRow : OpenClaim := { program := "ytoalihddfgehjaa", sum := "cae279e86b0ff53a74865284826f2596aa241c794bff58c11dc7a4e92985c485", func := "gabion/gabionlaw02.SumOf", spec := "sumOf", apart := false }
def SumOfSaid : Prop := sumOfRow.holds Try.pinned (OpenSpec.ofChange sumOfSpec)

/-- ITS FALSE NEIGHBOUR: 'it returns false'. Refute it at one input. -/
def sumOfWrong : ChangeSpec := { name := "sumOf", fn := fun _ => fun
  | [d] => { results := [.lit (.bool false)], args := [d] }
  | _ => none }
def SumOfWrongFalsely : Prop := sumOfRow.holds Try.pinned (OpenSpec.ofChange sumOfWrong)

/-- 'gabionlaw02.SumParts': WHATEVER THE INPUT: true; the input reads as it did. -/
def sumPartsSpec : ChangeSpec := { name := "sumParts", fn := fun _ => fun
  | [d] => { results := [.lit (.bool true)], args := [d] }
  | _ => none }
def sumPartsRow : OpenClaim := { program := "ytoalihddfgehjaa", sum := "cae279e86b0ff53a74865284826f2596aa241c794bff58c11dc7a4e92985c485", func := "gabion/gabionlaw02.SumParts", spec := "sumParts", apart := false }
def SumPartsSaid : Prop := sumPartsRow.holds Try.pinned (OpenSpec.ofChange sumPartsSpec)

/-- ITS FALSE NEIGHBOUR: 'it returns false'. Refute it at one input. -/
def sumPartsWrong : ChangeSpec := { name := "sumParts", fn := fun _ => fun
  | [d] => { results := [.lit (.bool false)], args := [d] }
  | _ => none }
def SumPartsWrongFalsely : Prop := sumPartsRow.holds Try.pinned (OpenSpec.ofChange sumPartsWrong)

/-- 'gabionlaw02.SumGoes': WHATEVER THE INPUT: true; the input reads as it did. -/
def sumGoesSpec : ChangeSpec := { name := "sumGoes", fn := fun _ => fun
  | [d1, d2, d3] => { results := [.lit (.bool true)], args := [d1, d2, d3] }
  | _ => none }
def sumGoesRow : OpenClaim := { program := "ytoalihddfgehjaa", sum := "cae279e86b0ff53a74865284826f2596aa241c794bff58c11dc7a4e92985c485", func := "gabion/gabionlaw02.SumGoes", spec := "sumGoes", apart := false }
def SumGoesSaid : Prop := sumGoesRow.holds Try.pinned (OpenSpec.ofChange sumGoesSpec)

/-- ITS FALSE NEIGHBOUR: 'it returns false'. Refute it at one input. -/
def sumGoesWrong : ChangeSpec := { name := "sumGoes", fn := fun _ => fun
  | [d1, d2, d3] => { results := [.lit (.bool false)], args := [d1, d2, d3] }
  | _ => none }
def SumGoesWrongFalsely : Prop := sumGoesRow.holds Try.pinned (OpenSpec.ofChange sumGoesWrong)

/-- 'gabionlaw02.SumTurns': WHATEVER THE INPUT: true; the input reads as it did. -/
def sumTurnsSpec : ChangeSpec := { name := "sumTurns", fn := fun _ => fun
  | [d1, d2, d3] => { results := [.lit (.bool true)], args := [d1, d2, d3] }
  | _ => none }
def sumTurnsRow : OpenClaim := { program := "ytoalihddfgehjaa", sum := "cae279e86b0ff53a74865284826f2596aa241c794bff58c11dc7a4e92985c485", func := "gabion/gabionlaw02.SumTurns", spec := "sumTurns", apart := false }
def SumTurnsSaid : Prop := sumTurnsRow.holds Try.pinned (OpenSpec.ofChange sumTurnsSpec)

/-- ITS FALSE NEIGHBOUR: 'it returns false'. Refute it at one input. -/
def sumTurnsWrong : ChangeSpec := { name := "sumTurns", fn := fun _ => fun
  | [d1, d2, d3] => { results := [.lit (.bool false)], args := [d1, d2, d3] }
  | _ => none }
def SumTurnsWrongFalsely : Prop := sumTurnsRow.holds Try.pinned (OpenSpec.ofChange sumTurnsWrong)

/-- 'gabionlaw02.SumEnds': WHATEVER THE INPUT: true; the input reads as it did. -/
def sumEndsSpec : ChangeSpec := { name := "sumEnds", fn := fun _ => fun
  | [d] => { results := [.lit (.bool true)], args := [d] }
  | _ => none }
def sumEndsRow : OpenClaim := { program := "ytoalihddfgehjaa", sum := "cae279e86b0ff53a74865284826f2596aa241c794bff58c11dc7a4e92985c485", func := "gabion/gabionlaw02.SumEnds", spec := "sumEnds", apart := false }
def SumEndsSaid : Prop := sumEndsRow.holds Try.pinned (OpenSpec.ofChange sumEndsSpec)

/-- ITS FALSE NEIGHBOUR: 'it returns false'. Refute it at one input. -/
def sumEndsWrong : ChangeSpec := { name := "sumEnds", fn := fun _ => fun
  | [d] => { results := [.lit (.bool false)], args := [d] }
  | _ => none }
def SumEndsWrongFalsely : Prop := sumEndsRow.holds Try.pinned (OpenSpec.ofChange sumEndsWrong)

/-- 'gabionlaw02.SumSplits': WHATEVER THE INPUT: true; the input reads as it did. -/
def sumSplitsSpec : ChangeSpec := { name := "sumSplits", fn := fun _ => fun
  | [d1, d2] => { results := [.lit (.bool true)], args := [d1, d2] }
  | _ => none }
def sumSplitsRow : OpenClaim := { program := "ytoalihddfgehjaa", sum := "cae279e86b0ff53a74865284826f2596aa241c794bff58c11dc7a4e92985c485", func := "gabion/gabionlaw02.SumSplits", spec := "sumSplits", apart := false }
def SumSplitsSaid : Prop := sumSplitsRow.holds Try.pinned (OpenSpec.ofChange sumSplitsSpec)

/-- ITS FALSE NEIGHBOUR: 'it returns false'. Refute it at one input. -/
def sumSplitsWrong : ChangeSpec := { name := "sumSplits", fn := fun _ => fun
  | [d1, d2] => { results := [.lit (.bool false)], args := [d1, d2] }
  | _ => none }
def SumSplitsWrongFalsely : Prop := sumSplitsRow.holds Try.pinned (OpenSpec.ofChange sumSplitsWrong)

/-- 'gabionlaw12.MemberNewest': WHATEVER THE INPUT: true; the input reads as it did. -/
def memberNewestSpec : ChangeSpec := { name := "memberNewest", fn := fun _ => fun
  | [d] => { results := [.lit (.bool true)], args := [d] }
  | _ => none }
def memberNewestRow : OpenClaim := { program := "ytoalihddfgehjaa", sum := "cae279e86b0ff53a74865284826f2596aa241c794bff58c11dc7a4e92985c485", func := "gabion/gabionlaw12.MemberNewest", spec := "memberNewest", apart := false }
def MemberNewestSaid : Prop := memberNewestRow.holds Try.pinned (OpenSpec.ofChange memberNewestSpec)

/-- ITS FALSE NEIGHBOUR: 'it returns false'. Refute it at one input. -/
def memberNewestWrong : ChangeSpec := { name := "memberNewest", fn := fun _ => fun
  | [d] => { results := [.lit (.bool false)], args := [d] }
  | _ => none }
def MemberNewestWrongFalsely : Prop := memberNewestRow.holds Try.pinned (OpenSpec.ofChange memberNewestWrong)

/-- 'gabionlaw08.GeomTurns': WHATEVER THE INPUT: true; the input reads as it did. -/
def geomTurnsSpec : ChangeSpec := { name := "geomTurns", fn := fun _ => fun
  | [d1, d2, d3] => { results := [.lit (.bool true)], args := [d1, d2, d3] }
  | _ => none }
def geomTurnsRow : OpenClaim := { program := "ytoalihddfgehjaa", sum := "cae279e86b0ff53a74865284826f2596aa241c794bff58c11dc7a4e92985c485", func := "gabion/gabionlaw08.GeomTurns", spec := "geomTurns", apart := false }
def GeomTurnsSaid : Prop := geomTurnsRow.holds Try.pinned (OpenSpec.ofChange geomTurnsSpec)

/-- ITS FALSE NEIGHBOUR: 'it returns false'. Refute it at one input. -/
def geomTurnsWrong : ChangeSpec := { name := "geomTurns", fn := fun _ => fun
  | [d1, d2, d3] => { results := [.lit (.bool false)], args := [d1, d2, d3] }
  | _ => none }
def GeomTurnsWrongFalsely : Prop := geomTurnsRow.holds Try.pinned (OpenSpec.ofChange geomTurnsWrong)

/-- 'gabionlaw08.GeomMembers': WHATEVER THE INPUT: true; the input reads as it did. -/
def geomMembersSpec : ChangeSpec := { name := "geomMembers", fn := fun _ => fun
  | [d1, d2, d3] => { results := [.lit (.bool true)], args := [d1, d2, d3] }
  | _ => none }
def geomMembersRow : OpenClaim := { program := "ytoalihddfgehjaa", sum := "cae279e86b0ff53a74865284826f2596aa241c794bff58c11dc7a4e92985c485", func := "gabion/gabionlaw08.GeomMembers", spec := "geomMembers", apart := false }
def GeomMembersSaid : Prop := geomMembersRow.holds Try.pinned (OpenSpec.ofChange geomMembersSpec)

/-- ITS FALSE NEIGHBOUR: 'it returns false'. Refute it at one input. -/
def geomMembersWrong : ChangeSpec := { name := "geomMembers", fn := fun _ => fun
  | [d1, d2, d3] => { results := [.lit (.bool false)], args := [d1, d2, d3] }
  | _ => none }
def GeomMembersWrongFalsely : Prop := geomMembersRow.holds Try.pinned (OpenSpec.ofChange geomMembersWrong)

/-- 'gabionlaw08.GeomNexts': WHATEVER THE INPUT: true; the input reads as it did. -/
def geomNextsSpec : ChangeSpec := { name := "geomNexts", fn := fun _ => fun
  | [d1, d2] => { results := [.lit (.bool true)], args := [d1, d2] }
  | _ => none }
def geomNextsRow : OpenClaim := { program := "ytoalihddfgehjaa", sum := "cae279e86b0ff53a74865284826f2596aa241c794bff58c11dc7a4e92985c485", func := "gabion/gabionlaw08.GeomNexts", spec := "geomNexts", apart := false }
def GeomNextsSaid : Prop := geomNextsRow.holds Try.pinned (OpenSpec.ofChange geomNextsSpec)

/-- ITS FALSE NEIGHBOUR: 'it returns false'. Refute it at one input. -/
def geomNextsWrong : ChangeSpec := { name := "geomNexts", fn := fun _ => fun
  | [d1, d2] => { results := [.lit (.bool false)], args := [d1, d2] }
  | _ => none }
def GeomNextsWrongFalsely : Prop := geomNextsRow.holds Try.pinned (OpenSpec.ofChange geomNextsWrong)

/-- 'gabionlaw08.GeomRoom': WHATEVER THE INPUT: true; the input reads as it did. -/
def geomRoomSpec : ChangeSpec := { name := "geomRoom", fn := fun _ => fun
  | [d] => { results := [.lit (.bool true)], args := [d] }
  | _ => none }
def geomRoomRow : OpenClaim := { program := "ytoalihddfgehjaa", sum := "cae279e86b0ff53a74865284826f2596aa241c794bff58c11dc7a4e92985c485", func := "gabion/gabionlaw08.GeomRoom", spec := "geomRoom", apart := false }
def GeomRoomSaid : Prop := geomRoomRow.holds Try.pinned (OpenSpec.ofChange geomRoomSpec)

/-- ITS FALSE NEIGHBOUR: 'it returns false'. Refute it at one input. -/
def geomRoomWrong : ChangeSpec := { name := "geomRoom", fn := fun _ => fun
  | [d] => { results := [.lit (.bool false)], args := [d] }
  | _ => none }
def GeomRoomWrongFalsely : Prop := geomRoomRow.holds Try.pinned (OpenSpec.ofChange geomRoomWrong)

/-- 'gabionlaw08.GeomStripes': WHATEVER THE INPUT: true; the input reads as it did. -/
def geomStripesSpec : ChangeSpec := { name := "geomStripes", fn := fun _ => fun
  | [d1, d2, d3] => { results := [.lit (.bool true)], args := [d1, d2, d3] }
  | _ => none }
def geomStripesRow : OpenClaim := { program := "ytoalihddfgehjaa", sum := "cae279e86b0ff53a74865284826f2596aa241c794bff58c11dc7a4e92985c485", func := "gabion/gabionlaw08.GeomStripes", spec := "geomStripes", apart := false }
def GeomStripesSaid : Prop := geomStripesRow.holds Try.pinned (OpenSpec.ofChange geomStripesSpec)

/-- ITS FALSE NEIGHBOUR: 'it returns false'. Refute it at one input. -/
def geomStripesWrong : ChangeSpec := { name := "geomStripes", fn := fun _ => fun
  | [d1, d2, d3] => { results := [.lit (.bool false)], args := [d1, d2, d3] }
  | _ => none }
def GeomStripesWrongFalsely : Prop := geomStripesRow.holds Try.pinned (OpenSpec.ofChange geomStripesWrong)

/-- 'gabionlaw08.GeomSizes': WHATEVER THE INPUT: true; the input reads as it did. -/
def geomSizesSpec : ChangeSpec := { name := "geomSizes", fn := fun _ => fun
  | [d] => { results := [.lit (.bool true)], args := [d] }
  | _ => none }
def geomSizesRow : OpenClaim := { program := "ytoalihddfgehjaa", sum := "cae279e86b0ff53a74865284826f2596aa241c794bff58c11dc7a4e92985c485", func := "gabion/gabionlaw08.GeomSizes", spec := "geomSizes", apart := false }
def GeomSizesSaid : Prop := geomSizesRow.holds Try.pinned (OpenSpec.ofChange geomSizesSpec)

/-- ITS FALSE NEIGHBOUR: 'it returns false'. Refute it at one input. -/
def geomSizesWrong : ChangeSpec := { name := "geomSizes", fn := fun _ => fun
  | [d] => { results := [.lit (.bool false)], args := [d] }
  | _ => none }
def GeomSizesWrongFalsely : Prop := geomSizesRow.holds Try.pinned (OpenSpec.ofChange geomSizesWrong)

/-- 'gabionlaw12.MemberFirsts': WHATEVER THE INPUT: true; the input reads as it did. -/
def memberFirstsSpec : ChangeSpec := { name := "memberFirsts", fn := fun _ => fun
  | [d] => { results := [.lit (.bool true)], args := [d] }
  | _ => none }
def memberFirstsRow : OpenClaim := { program := "ytoalihddfgehjaa", sum := "cae279e86b0ff53a74865284826f2596aa241c794bff58c11dc7a4e92985c485", func := "gabion/gabionlaw12.MemberFirsts", spec := "memberFirsts", apart := false }
def MemberFirstsSaid : Prop := memberFirstsRow.holds Try.pinned (OpenSpec.ofChange memberFirstsSpec)

/-- ITS FALSE NEIGHBOUR: 'it returns false'. Refute it at one input. -/
def memberFirstsWrong : ChangeSpec := { name := "memberFirsts", fn := fun _ => fun
  | [d] => { results := [.lit (.bool false)], args := [d] }
  | _ => none }
def MemberFirstsWrongFalsely : Prop := memberFirstsRow.holds Try.pinned (OpenSpec.ofChange memberFirstsWrong)

/-- 'gabionlaw12.MemberTwice': WHATEVER THE INPUT: true; the input reads as it did. -/
def memberTwiceSpec : ChangeSpec := { name := "memberTwice", fn := fun _ => fun
  | [d] => { results := [.lit (.bool true)], args := [d] }
  | _ => none }
def memberTwiceRow : OpenClaim := { program := "ytoalihddfgehjaa", sum := "cae279e86b0ff53a74865284826f2596aa241c794bff58c11dc7a4e92985c485", func := "gabion/gabionlaw12.MemberTwice", spec := "memberTwice", apart := false }
def MemberTwiceSaid : Prop := memberTwiceRow.holds Try.pinned (OpenSpec.ofChange memberTwiceSpec)

/-- ITS FALSE NEIGHBOUR: 'it returns false'. Refute it at one input. -/
def memberTwiceWrong : ChangeSpec := { name := "memberTwice", fn := fun _ => fun
  | [d] => { results := [.lit (.bool false)], args := [d] }
  | _ => none }
def MemberTwiceWrongFalsely : Prop := memberTwiceRow.holds Try.pinned (OpenSpec.ofChange memberTwiceWrong)

/-- 'gabionlaw08.GeomNumbers': WHATEVER THE INPUT: true; the input reads as it did. -/
def geomNumbersSpec : ChangeSpec := { name := "geomNumbers", fn := fun _ => fun
  | [d1, d2, d3] => { results := [.lit (.bool true)], args := [d1, d2, d3] }
  | _ => none }
def geomNumbersRow : OpenClaim := { program := "ytoalihddfgehjaa", sum := "cae279e86b0ff53a74865284826f2596aa241c794bff58c11dc7a4e92985c485", func := "gabion/gabionlaw08.GeomNumbers", spec := "geomNumbers", apart := false }
def GeomNumbersSaid : Prop := geomNumbersRow.holds Try.pinned (OpenSpec.ofChange geomNumbersSpec)

/-- ITS FALSE NEIGHBOUR: 'it returns false'. Refute it at one input. -/
def geomNumbersWrong : ChangeSpec := { name := "geomNumbers", fn := fun _ => fun
  | [d1, d2, d3] => { results := [.lit (.bool false)], args := [d1, d2, d3] }
  | _ => none }
def GeomNumbersWrongFalsely : Prop := geomNumbersRow.holds Try.pinned (OpenSpec.ofChange geomNumbersWrong)

/- THE SECOND FORM. 'bulk': how many values and letters a reading holds, each counted each time it is reached (what is shared counts as often as it is met; a slice's spare places count too). A statement '..UptoSaid' is the law's where the arguments, and the package variables that the reading takes, are together of bulk at most 1048576: NARROWER than '..Said'. Prove '..Said' where nothing that the law and all that it calls make is longer than what came in: it says more and counts as full. Else prove '..UptoSaid'. A law counts once. -/
mutual
def uptoBulk {H : Type} : DataW H → Nat
  | .lit (.string bytes) => bytes.length + 1
  | .lit _ => 1
  | .nil => 1
  | .ptr d => uptoBulk d + 1
  | .slice elems spare => uptoBulkAll elems + uptoBulkAll spare + 1
  | .agg parts => uptoBulkAll parts + 1
  | .iface _ d => uptoBulk d + 1
  | .map entries => uptoBulkEntries entries + 1
  | .held _ => 1
def uptoBulkAll {H : Type} : List (DataW H) → Nat
  | [] => 0
  | d :: r => uptoBulk d + uptoBulkAll r
def uptoBulkEntries {H : Type} : List (Lit × DataW H) → Nat
  | [] => 0
  | x :: r => uptoBulkEntry x + uptoBulkEntries r
def uptoBulkEntry {H : Type} : Lit × DataW H → Nat
  | (.string bytes, d) => bytes.length + uptoBulk d + 1
  | (_, d) => uptoBulk d + 1
 end
def uptoSmall : (H : Type) → List (DataW H) → Bool := fun _ ds => decide (uptoBulkAll ds ≤ 1048576)
def OpenSpec.upto (s : _root_.Go.ChangeSpec) : _root_.Go.OpenSpec := { _root_.Go.OpenSpec.ofChange s with cond := some uptoSmall }

/-- 'gabionlaw02.SumOf', WHERE WHAT IT READS IS OF BULK AT MOST 1048576: true; the input reads as it did. -/
def sumOfUptoRow : OpenClaim := { program := "ytoalihddfgehjaa", sum := "cae279e86b0ff53a74865284826f2596aa241c794bff58c11dc7a4e92985c485", func := "gabion/gabionlaw02.SumOf", spec := "sumOf", apart := false, narrowed := true }
def SumOfUptoSaid : Prop := sumOfUptoRow.holds Try.pinned (OpenSpec.upto sumOfSpec)

/-- 'gabionlaw02.SumParts', WHERE WHAT IT READS IS OF BULK AT MOST 1048576: true; the input reads as it did. -/
def sumPartsUptoRow : OpenClaim := { program := "ytoalihddfgehjaa", sum := "cae279e86b0ff53a74865284826f2596aa241c794bff58c11dc7a4e92985c485", func := "gabion/gabionlaw02.SumParts", spec := "sumParts", apart := false, narrowed := true }
def SumPartsUptoSaid : Prop := sumPartsUptoRow.holds Try.pinned (OpenSpec.upto sumPartsSpec)

/-- 'gabionlaw02.SumGoes', WHERE WHAT IT READS IS OF BULK AT MOST 1048576: true; the input reads as it did. -/
def sumGoesUptoRow : OpenClaim := { program := "ytoalihddfgehjaa", sum := "cae279e86b0ff53a74865284826f2596aa241c794bff58c11dc7a4e92985c485", func := "gabion/gabionlaw02.SumGoes", spec := "sumGoes", apart := false, narrowed := true }
def SumGoesUptoSaid : Prop := sumGoesUptoRow.holds Try.pinned (OpenSpec.upto sumGoesSpec)

/-- 'gabionlaw02.SumTurns', WHERE WHAT IT READS IS OF BULK AT MOST 1048576: true; the input reads as it did. -/
def sumTurnsUptoRow : OpenClaim := { program := "ytoalihddfgehjaa", sum := "cae279e86b0ff53a74865284826f2596aa241c794bff58c11dc7a4e92985c485", func := "gabion/gabionlaw02.SumTurns", spec := "sumTurns", apart := false, narrowed := true }
def SumTurnsUptoSaid : Prop := sumTurnsUptoRow.holds Try.pinned (OpenSpec.upto sumTurnsSpec)

/-- 'gabionlaw02.SumEnds', WHERE WHAT IT READS IS OF BULK AT MOST 1048576: true; the input reads as it did. -/
def sumEndsUptoRow : OpenClaim := { program := "ytoalihddfgehjaa", sum := "cae279e86b0ff53a74865284826f2596aa241c794bff58c11dc7a4e92985c485", func := "gabion/gabionlaw02.SumEnds", spec := "sumEnds", apart := false, narrowed := true }
def SumEndsUptoSaid : Prop := sumEndsUptoRow.holds Try.pinned (OpenSpec.upto sumEndsSpec)

/-- 'gabionlaw02.SumSplits', WHERE WHAT IT READS IS OF BULK AT MOST 1048576: true; the input reads as it did. -/
def sumSplitsUptoRow : OpenClaim := { program := "ytoalihddfgehjaa", sum := "cae279e86b0ff53a74865284826f2596aa241c794bff58c11dc7a4e92985c485", func := "gabion/gabionlaw02.SumSplits", spec := "sumSplits", apart := false, narrowed := true }
def SumSplitsUptoSaid : Prop := sumSplitsUptoRow.holds Try.pinned (OpenSpec.upto sumSplitsSpec)

/-- 'gabionlaw12.MemberNewest', WHERE WHAT IT READS IS OF BULK AT MOST 1048576: true; the input reads as it did. -/
def memberNewestUptoRow : OpenClaim := { program := "ytoalihddfgehjaa", sum := "cae279e86b0ff53a74865284826f2596aa241c794bff58c11dc7a4e92985c485", func := "gabion/gabionlaw12.MemberNewest", spec := "memberNewest", apart := false, narrowed := true }
def MemberNewestUptoSaid : Prop := memberNewestUptoRow.holds Try.pinned (OpenSpec.upto memberNewestSpec)

/-- 'gabionlaw08.GeomTurns', WHERE WHAT IT READS IS OF BULK AT MOST 1048576: true; the input reads as it did. -/
def geomTurnsUptoRow : OpenClaim := { program := "ytoalihddfgehjaa", sum := "cae279e86b0ff53a74865284826f2596aa241c794bff58c11dc7a4e92985c485", func := "gabion/gabionlaw08.GeomTurns", spec := "geomTurns", apart := false, narrowed := true }
def GeomTurnsUptoSaid : Prop := geomTurnsUptoRow.holds Try.pinned (OpenSpec.upto geomTurnsSpec)

/-- 'gabionlaw08.GeomMembers', WHERE WHAT IT READS IS OF BULK AT MOST 1048576: true; the input reads as it did. -/
def geomMembersUptoRow : OpenClaim := { program := "ytoalihddfgehjaa", sum := "cae279e86b0ff53a74865284826f2596aa241c794bff58c11dc7a4e92985c485", func := "gabion/gabionlaw08.GeomMembers", spec := "geomMembers", apart := false, narrowed := true }
def GeomMembersUptoSaid : Prop := geomMembersUptoRow.holds Try.pinned (OpenSpec.upto geomMembersSpec)

/-- 'gabionlaw08.GeomNexts', WHERE WHAT IT READS IS OF BULK AT MOST 1048576: true; the input reads as it did. -/
def geomNextsUptoRow : OpenClaim := { program := "ytoalihddfgehjaa", sum := "cae279e86b0ff53a74865284826f2596aa241c794bff58c11dc7a4e92985c485", func := "gabion/gabionlaw08.GeomNexts", spec := "geomNexts", apart := false, narrowed := true }
def GeomNextsUptoSaid : Prop := geomNextsUptoRow.holds Try.pinned (OpenSpec.upto geomNextsSpec)

/-- 'gabionlaw08.GeomRoom', WHERE WHAT IT READS IS OF BULK AT MOST 1048576: true; the input reads as it did. -/
def geomRoomUptoRow : OpenClaim := { program := "ytoalihddfgehjaa", sum := "cae279e86b0ff53a74865284826f2596aa241c794bff58c11dc7a4e92985c485", func := "gabion/gabionlaw08.GeomRoom", spec := "geomRoom", apart := false, narrowed := true }
def GeomRoomUptoSaid : Prop := geomRoomUptoRow.holds Try.pinned (OpenSpec.upto geomRoomSpec)

/-- 'gabionlaw08.GeomStripes', WHERE WHAT IT READS IS OF BULK AT MOST 1048576: true; the input reads as it did. -/
def geomStripesUptoRow : OpenClaim := { program := "ytoalihddfgehjaa", sum := "cae279e86b0ff53a74865284826f2596aa241c794bff58c11dc7a4e92985c485", func := "gabion/gabionlaw08.GeomStripes", spec := "geomStripes", apart := false, narrowed := true }
def GeomStripesUptoSaid : Prop := geomStripesUptoRow.holds Try.pinned (OpenSpec.upto geomStripesSpec)

/-- 'gabionlaw08.GeomSizes', WHERE WHAT IT READS IS OF BULK AT MOST 1048576: true; the input reads as it did. -/
def geomSizesUptoRow : OpenClaim := { program := "ytoalihddfgehjaa", sum := "cae279e86b0ff53a74865284826f2596aa241c794bff58c11dc7a4e92985c485", func := "gabion/gabionlaw08.GeomSizes", spec := "geomSizes", apart := false, narrowed := true }
def GeomSizesUptoSaid : Prop := geomSizesUptoRow.holds Try.pinned (OpenSpec.upto geomSizesSpec)

/-- 'gabionlaw12.MemberFirsts', WHERE WHAT IT READS IS OF BULK AT MOST 1048576: true; the input reads as it did. -/
def memberFirstsUptoRow : OpenClaim := { program := "ytoalihddfgehjaa", sum := "cae279e86b0ff53a74865284826f2596aa241c794bff58c11dc7a4e92985c485", func := "gabion/gabionlaw12.MemberFirsts", spec := "memberFirsts", apart := false, narrowed := true }
def MemberFirstsUptoSaid : Prop := memberFirstsUptoRow.holds Try.pinned (OpenSpec.upto memberFirstsSpec)

/-- 'gabionlaw12.MemberTwice', WHERE WHAT IT READS IS OF BULK AT MOST 1048576: true; the input reads as it did. -/
def memberTwiceUptoRow : OpenClaim := { program := "ytoalihddfgehjaa", sum := "cae279e86b0ff53a74865284826f2596aa241c794bff58c11dc7a4e92985c485", func := "gabion/gabionlaw12.MemberTwice", spec := "memberTwice", apart := false, narrowed := true }
def MemberTwiceUptoSaid : Prop := memberTwiceUptoRow.holds Try.pinned (OpenSpec.upto memberTwiceSpec)

/-- 'gabionlaw08.GeomNumbers', WHERE WHAT IT READS IS OF BULK AT MOST 1048576: true; the input reads as it did. -/
def geomNumbersUptoRow : OpenClaim := { program := "ytoalihddfgehjaa", sum := "cae279e86b0ff53a74865284826f2596aa241c794bff58c11dc7a4e92985c485", func := "gabion/gabionlaw08.GeomNumbers", spec := "geomNumbers", apart := false, narrowed := true }
def GeomNumbersUptoSaid : Prop := geomNumbersUptoRow.holds Try.pinned (OpenSpec.upto geomNumbersSpec)

end Rows
end Go.Proofs.Ytoalihddfgehjaa
