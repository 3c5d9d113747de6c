/-
  No cell of these rows narrows 'for every input' (looked for: loops, veiled, ifaces, maps, wideKeys, modest, calm, conditions, laid).
  DERIVED. THE GIVEN ROWS OF THIS SEAT. 6 by the template 'for every input the law returns true; each argument reads behind the call as it read before'; 0 by the template 'total and deterministic' (their statements: YtogejjbclimjjaaTotals.lean).
  GIVEN WITH THE SEED: the statements are not yours to turn. If you find one false, say at which input.
  Laid BY PROGRAM, IN A SANDBOX (cutbox-rows.mjs): the forced cells as the released guide's own fill.sh prints them over the translation dcd28c3a8128ec87… (all of the seat's roots in one cut). By AI agents, Wed Nov 11 2026. No macro, syntax, notation, axiom, sorry.
-/
import Derived.Test.YtogejjbclimjjaaChecked
import GoSem.Claim
import GoSem.ClaimJoined
import GoSem.ClaimMapViews
import Derived.JoinedTies
import Derived.KernelRfl
namespace Go.Proofs.Ytogejjbclimjjaa
/- THE CELL 'sum', in the pinned program and in every row, IS THE sha256 OF THE DUMP (.gsa) THAT YtogejjbclimjjaaProg.lean LOADS. Nothing in Lean hashes anything: it is a label: what it is worth is what the hold of that sum in a sandbox is worth. -/
noncomputable def Try.pinned : Pinned := { name := "ytogejjbclimjjaa", sum := "dcd28c3a8128ec87265109dbf20dc531867ea05f70eb94c9072330db3c841126", checked := Try.checked }
namespace Rows
def none {H : Type} : Left H := { results := [], args := [] }

/-- 'gabionlaw12.MemberParses': WHATEVER THE INPUT: true; the input reads as it did. -/
def memberParsesSpec : ChangeSpec := { name := "memberParses", fn := fun _ => fun
  | [d] => { results := [.lit (.bool true)], args := [d] }
  | _ => none }
def memberParsesRow : OpenClaim := { program := "ytogejjbclimjjaa", sum := "dcd28c3a8128ec87265109dbf20dc531867ea05f70eb94c9072330db3c841126", func := "gabion/gabionlaw12.MemberParses", spec := "memberParses", unfollowed := true, recurses := true, apart := false }
def MemberParsesSaid : Prop := memberParsesRow.holds Try.pinned (OpenSpec.ofChange memberParsesSpec)

/-- ITS FALSE NEIGHBOUR: 'it returns false'. Refute it at one input. -/
def memberParsesWrong : ChangeSpec := { name := "memberParses", fn := fun _ => fun
  | [d] => { results := [.lit (.bool false)], args := [d] }
  | _ => none }
def MemberParsesWrongFalsely : Prop := memberParsesRow.holds Try.pinned (OpenSpec.ofChange memberParsesWrong)

/-- 'gabionlaw12.MemberPlains': WHATEVER THE INPUT: true; the input reads as it did. -/
def memberPlainsSpec : ChangeSpec := { name := "memberPlains", fn := fun _ => fun
  | [d] => { results := [.lit (.bool true)], args := [d] }
  | _ => none }
def memberPlainsRow : OpenClaim := { program := "ytogejjbclimjjaa", sum := "dcd28c3a8128ec87265109dbf20dc531867ea05f70eb94c9072330db3c841126", func := "gabion/gabionlaw12.MemberPlains", spec := "memberPlains", unfollowed := true, recurses := true, apart := false }
def MemberPlainsSaid : Prop := memberPlainsRow.holds Try.pinned (OpenSpec.ofChange memberPlainsSpec)

/-- ITS FALSE NEIGHBOUR: 'it returns false'. Refute it at one input. -/
def memberPlainsWrong : ChangeSpec := { name := "memberPlains", fn := fun _ => fun
  | [d] => { results := [.lit (.bool false)], args := [d] }
  | _ => none }
def MemberPlainsWrongFalsely : Prop := memberPlainsRow.holds Try.pinned (OpenSpec.ofChange memberPlainsWrong)

/-- 'gabionlaw06.RemapChecks': WHATEVER THE INPUT: true; the input reads as it did. -/
def remapChecksSpec : ChangeSpec := { name := "remapChecks", fn := fun _ => fun
  | [d1, d2] => { results := [.lit (.bool true)], args := [d1, d2] }
  | _ => none }
def remapChecksRow : OpenClaim := { program := "ytogejjbclimjjaa", sum := "dcd28c3a8128ec87265109dbf20dc531867ea05f70eb94c9072330db3c841126", func := "gabion/gabionlaw06.RemapChecks", spec := "remapChecks", unfollowed := true, recurses := true, apart := false }
def RemapChecksSaid : Prop := remapChecksRow.holds Try.pinned (OpenSpec.ofChange remapChecksSpec)

/-- ITS FALSE NEIGHBOUR: 'it returns false'. Refute it at one input. -/
def remapChecksWrong : ChangeSpec := { name := "remapChecks", fn := fun _ => fun
  | [d1, d2] => { results := [.lit (.bool false)], args := [d1, d2] }
  | _ => none }
def RemapChecksWrongFalsely : Prop := remapChecksRow.holds Try.pinned (OpenSpec.ofChange remapChecksWrong)

/-- 'gabionlaw06.RemapPlains': WHATEVER THE INPUT: true; the input reads as it did. -/
def remapPlainsSpec : ChangeSpec := { name := "remapPlains", fn := fun _ => fun
  | [d] => { results := [.lit (.bool true)], args := [d] }
  | _ => none }
def remapPlainsRow : OpenClaim := { program := "ytogejjbclimjjaa", sum := "dcd28c3a8128ec87265109dbf20dc531867ea05f70eb94c9072330db3c841126", func := "gabion/gabionlaw06.RemapPlains", spec := "remapPlains", unfollowed := true, recurses := true, apart := false }
def RemapPlainsSaid : Prop := remapPlainsRow.holds Try.pinned (OpenSpec.ofChange remapPlainsSpec)

/-- ITS FALSE NEIGHBOUR: 'it returns false'. Refute it at one input. -/
def remapPlainsWrong : ChangeSpec := { name := "remapPlains", fn := fun _ => fun
  | [d] => { results := [.lit (.bool false)], args := [d] }
  | _ => none }
def RemapPlainsWrongFalsely : Prop := remapPlainsRow.holds Try.pinned (OpenSpec.ofChange remapPlainsWrong)

/-- 'gabionlaw06.RemapDecodes': WHATEVER THE INPUT: true; the input reads as it did. -/
def remapDecodesSpec : ChangeSpec := { name := "remapDecodes", fn := fun _ => fun
  | [d1, d2] => { results := [.lit (.bool true)], args := [d1, d2] }
  | _ => none }
def remapDecodesRow : OpenClaim := { program := "ytogejjbclimjjaa", sum := "dcd28c3a8128ec87265109dbf20dc531867ea05f70eb94c9072330db3c841126", func := "gabion/gabionlaw06.RemapDecodes", spec := "remapDecodes", unfollowed := true, recurses := true, apart := false }
def RemapDecodesSaid : Prop := remapDecodesRow.holds Try.pinned (OpenSpec.ofChange remapDecodesSpec)

/-- ITS FALSE NEIGHBOUR: 'it returns false'. Refute it at one input. -/
def remapDecodesWrong : ChangeSpec := { name := "remapDecodes", fn := fun _ => fun
  | [d1, d2] => { results := [.lit (.bool false)], args := [d1, d2] }
  | _ => none }
def RemapDecodesWrongFalsely : Prop := remapDecodesRow.holds Try.pinned (OpenSpec.ofChange remapDecodesWrong)

/-- 'gabionlaw06.RemapMany': WHATEVER THE INPUT: true; the input reads as it did. -/
def remapManySpec : ChangeSpec := { name := "remapMany", fn := fun _ => fun
  | [d] => { results := [.lit (.bool true)], args := [d] }
  | _ => none }
def remapManyRow : OpenClaim := { program := "ytogejjbclimjjaa", sum := "dcd28c3a8128ec87265109dbf20dc531867ea05f70eb94c9072330db3c841126", func := "gabion/gabionlaw06.RemapMany", spec := "remapMany", unfollowed := true, recurses := true, apart := false }
def RemapManySaid : Prop := remapManyRow.holds Try.pinned (OpenSpec.ofChange remapManySpec)

/-- ITS FALSE NEIGHBOUR: 'it returns false'. Refute it at one input. -/
def remapManyWrong : ChangeSpec := { name := "remapMany", fn := fun _ => fun
  | [d] => { results := [.lit (.bool false)], args := [d] }
  | _ => none }
def RemapManyWrongFalsely : Prop := remapManyRow.holds Try.pinned (OpenSpec.ofChange remapManyWrong)

/- THE SECOND FORM. 'bulk': how many values and letters a reading holds, each counted each time it is reached (what is shared counts as often as it is met; a slice's spare places count too). A statement '..UptoSaid' is the law's where the arguments, and the package variables that the reading takes, are together of bulk at most 1048576: NARROWER than '..Said'. Prove '..Said' where nothing that the law and all that it calls make is longer than what came in: it says more and counts as full. Else prove '..UptoSaid'. A law counts once. -/
mutual
def uptoBulk {H : Type} : DataW H → Nat
  | .lit (.string bytes) => bytes.length + 1
  | .lit _ => 1
  | .nil => 1
  | .ptr d => uptoBulk d + 1
  | .slice elems spare => uptoBulkAll elems + uptoBulkAll spare + 1
  | .agg parts => uptoBulkAll parts + 1
  | .iface _ d => uptoBulk d + 1
  | .map entries => uptoBulkEntries entries + 1
  | .held _ => 1
def uptoBulkAll {H : Type} : List (DataW H) → Nat
  | [] => 0
  | d :: r => uptoBulk d + uptoBulkAll r
def uptoBulkEntries {H : Type} : List (Lit × DataW H) → Nat
  | [] => 0
  | x :: r => uptoBulkEntry x + uptoBulkEntries r
def uptoBulkEntry {H : Type} : Lit × DataW H → Nat
  | (.string bytes, d) => bytes.length + uptoBulk d + 1
  | (_, d) => uptoBulk d + 1
 end
def uptoSmall : (H : Type) → List (DataW H) → Bool := fun _ ds => decide (uptoBulkAll ds ≤ 1048576)
def OpenSpec.upto (s : _root_.Go.ChangeSpec) : _root_.Go.OpenSpec := { _root_.Go.OpenSpec.ofChange s with cond := some uptoSmall }

/-- 'gabionlaw12.MemberParses', WHERE WHAT IT READS IS OF BULK AT MOST 1048576: true; the input reads as it did. -/
def memberParsesUptoRow : OpenClaim := { program := "ytogejjbclimjjaa", sum := "dcd28c3a8128ec87265109dbf20dc531867ea05f70eb94c9072330db3c841126", func := "gabion/gabionlaw12.MemberParses", spec := "memberParses", unfollowed := true, recurses := true, apart := false, narrowed := true }
def MemberParsesUptoSaid : Prop := memberParsesUptoRow.holds Try.pinned (OpenSpec.upto memberParsesSpec)

/-- 'gabionlaw12.MemberPlains', WHERE WHAT IT READS IS OF BULK AT MOST 1048576: true; the input reads as it did. -/
def memberPlainsUptoRow : OpenClaim := { program := "ytogejjbclimjjaa", sum := "dcd28c3a8128ec87265109dbf20dc531867ea05f70eb94c9072330db3c841126", func := "gabion/gabionlaw12.MemberPlains", spec := "memberPlains", unfollowed := true, recurses := true, apart := false, narrowed := true }
def MemberPlainsUptoSaid : Prop := memberPlainsUptoRow.holds Try.pinned (OpenSpec.upto memberPlainsSpec)

/-- 'gabionlaw06.RemapChecks', WHERE WHAT IT READS IS OF BULK AT MOST 1048576: true; the input reads as it did. -/
def remapChecksUptoRow : OpenClaim := { program := "ytogejjbclimjjaa", sum := "dcd28c3a8128ec87265109dbf20dc531867ea05f70eb94c9072330db3c841126", func := "gabion/gabionlaw06.RemapChecks", spec := "remapChecks", unfollowed := true, recurses := true, apart := false, narrowed := true }
def RemapChecksUptoSaid : Prop := remapChecksUptoRow.holds Try.pinned (OpenSpec.upto remapChecksSpec)

/-- 'gabionlaw06.RemapPlains', WHERE WHAT IT READS IS OF BULK AT MOST 1048576: true; the input reads as it did. -/
def remapPlainsUptoRow : OpenClaim := { program := "ytogejjbclimjjaa", sum := "dcd28c3a8128ec87265109dbf20dc531867ea05f70eb94c9072330db3c841126", func := "gabion/gabionlaw06.RemapPlains", spec := "remapPlains", unfollowed := true, recurses := true, apart := false, narrowed := true }
def RemapPlainsUptoSaid : Prop := remapPlainsUptoRow.holds Try.pinned (OpenSpec.upto remapPlainsSpec)

/-- 'gabionlaw06.RemapDecodes', WHERE WHAT IT READS IS OF BULK AT MOST 1048576: true; the input reads as it did. -/
def remapDecodesUptoRow : OpenClaim := { program := "ytogejjbclimjjaa", sum := "dcd28c3a8128ec87265109dbf20dc531867ea05f70eb94c9072330db3c841126", func := "gabion/gabionlaw06.RemapDecodes", spec := "remapDecodes", unfollowed := true, recurses := true, apart := false, narrowed := true }
def RemapDecodesUptoSaid : Prop := remapDecodesUptoRow.holds Try.pinned (OpenSpec.upto remapDecodesSpec)

/-- 'gabionlaw06.RemapMany', WHERE WHAT IT READS IS OF BULK AT MOST 1048576: true; the input reads as it did. -/
def remapManyUptoRow : OpenClaim := { program := "ytogejjbclimjjaa", sum := "dcd28c3a8128ec87265109dbf20dc531867ea05f70eb94c9072330db3c841126", func := "gabion/gabionlaw06.RemapMany", spec := "remapMany", unfollowed := true, recurses := true, apart := false, narrowed := true }
def RemapManyUptoSaid : Prop := remapManyUptoRow.holds Try.pinned (OpenSpec.upto remapManySpec)

end Rows
end Go.Proofs.Ytogejjbclimjjaa
