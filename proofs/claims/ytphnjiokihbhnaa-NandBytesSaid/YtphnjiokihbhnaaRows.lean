/-
  No cell of these rows narrows 'for every input' (looked for: loops, veiled, ifaces, maps, wideKeys, modest, calm, conditions, laid).
  DERIVED. THE GIVEN ROWS OF THIS SEAT. 6 by the template 'for every input the law returns true; each argument reads behind the call as it read before'; 0 by the template 'total and deterministic' (their statements: YtphnjiokihbhnaaTotals.lean).
  GIVEN WITH THE SEED: the statements are not yours to turn. If you find one false, say at which input.
  Laid BY PROGRAM, IN A SANDBOX (cutbox-rows.mjs): the forced cells as the released guide's own fill.sh prints them over the translation ec45afb4500cb945… (all of the seat's roots in one cut). By AI agents, Wed Nov 11 2026. No macro, syntax, notation, axiom, sorry.
-/
import Derived.Test.YtphnjiokihbhnaaChecked
import GoSem.Claim
import GoSem.ClaimJoined
import GoSem.ClaimMapViews
import Derived.JoinedTies
import Derived.KernelRfl
namespace Go.Proofs.Ytphnjiokihbhnaa
/- THE CELL 'sum', in the pinned program and in every row, IS THE sha256 OF THE DUMP (.gsa) THAT YtphnjiokihbhnaaProg.lean LOADS. Nothing in Lean hashes anything: it is a label: what it is worth is what the hold of that sum in a sandbox is worth. -/
noncomputable def Try.pinned : Pinned := { name := "ytphnjiokihbhnaa", sum := "ec45afb4500cb945a23577cf909c948fe4646dddcb94e36d314012b16f0399d1", checked := Try.checked }
namespace Rows
def none {H : Type} : Left H := { results := [], args := [] }

/-- 'gabionlaw04.NandOrders': WHATEVER THE INPUT: true; the input reads as it did. -/
def nandOrdersSpec : ChangeSpec := { name := "nandOrders", fn := fun _ => fun
  | [d] => { results := [.lit (.bool true)], args := [d] }
  | _ => none }
def nandOrdersRow : OpenClaim := { program := "ytphnjiokihbhnaa", sum := "ec45afb4500cb945a23577cf909c948fe4646dddcb94e36d314012b16f0399d1", func := "gabion/gabionlaw04.NandOrders", spec := "nandOrders", apart := false }
def NandOrdersSaid : Prop := nandOrdersRow.holds Try.pinned (OpenSpec.ofChange nandOrdersSpec)

/-- ITS FALSE NEIGHBOUR: 'it returns false'. Refute it at one input. -/
def nandOrdersWrong : ChangeSpec := { name := "nandOrders", fn := fun _ => fun
  | [d] => { results := [.lit (.bool false)], args := [d] }
  | _ => none }
def NandOrdersWrongFalsely : Prop := nandOrdersRow.holds Try.pinned (OpenSpec.ofChange nandOrdersWrong)

/-- 'gabionlaw04.NandKeeps': WHATEVER THE INPUT: true; the input reads as it did. -/
def nandKeepsSpec : ChangeSpec := { name := "nandKeeps", fn := fun _ => fun
  | [d] => { results := [.lit (.bool true)], args := [d] }
  | _ => none }
def nandKeepsRow : OpenClaim := { program := "ytphnjiokihbhnaa", sum := "ec45afb4500cb945a23577cf909c948fe4646dddcb94e36d314012b16f0399d1", func := "gabion/gabionlaw04.NandKeeps", spec := "nandKeeps", apart := false }
def NandKeepsSaid : Prop := nandKeepsRow.holds Try.pinned (OpenSpec.ofChange nandKeepsSpec)

/-- ITS FALSE NEIGHBOUR: 'it returns false'. Refute it at one input. -/
def nandKeepsWrong : ChangeSpec := { name := "nandKeeps", fn := fun _ => fun
  | [d] => { results := [.lit (.bool false)], args := [d] }
  | _ => none }
def NandKeepsWrongFalsely : Prop := nandKeepsRow.holds Try.pinned (OpenSpec.ofChange nandKeepsWrong)

/-- 'gabionlaw04.NandPlays': WHATEVER THE INPUT: true; the input reads as it did. -/
def nandPlaysSpec : ChangeSpec := { name := "nandPlays", fn := fun _ => fun
  | [d] => { results := [.lit (.bool true)], args := [d] }
  | _ => none }
def nandPlaysRow : OpenClaim := { program := "ytphnjiokihbhnaa", sum := "ec45afb4500cb945a23577cf909c948fe4646dddcb94e36d314012b16f0399d1", func := "gabion/gabionlaw04.NandPlays", spec := "nandPlays", apart := false }
def NandPlaysSaid : Prop := nandPlaysRow.holds Try.pinned (OpenSpec.ofChange nandPlaysSpec)

/-- ITS FALSE NEIGHBOUR: 'it returns false'. Refute it at one input. -/
def nandPlaysWrong : ChangeSpec := { name := "nandPlays", fn := fun _ => fun
  | [d] => { results := [.lit (.bool false)], args := [d] }
  | _ => none }
def NandPlaysWrongFalsely : Prop := nandPlaysRow.holds Try.pinned (OpenSpec.ofChange nandPlaysWrong)

/-- 'gabionlaw04.NandNils': WHATEVER THE INPUT: true; the input reads as it did. -/
def nandNilsSpec : ChangeSpec := { name := "nandNils", fn := fun _ => fun
  | [d1, d2] => { results := [.lit (.bool true)], args := [d1, d2] }
  | _ => none }
def nandNilsRow : OpenClaim := { program := "ytphnjiokihbhnaa", sum := "ec45afb4500cb945a23577cf909c948fe4646dddcb94e36d314012b16f0399d1", func := "gabion/gabionlaw04.NandNils", spec := "nandNils", apart := false }
def NandNilsSaid : Prop := nandNilsRow.holds Try.pinned (OpenSpec.ofChange nandNilsSpec)

/-- ITS FALSE NEIGHBOUR: 'it returns false'. Refute it at one input. -/
def nandNilsWrong : ChangeSpec := { name := "nandNils", fn := fun _ => fun
  | [d1, d2] => { results := [.lit (.bool false)], args := [d1, d2] }
  | _ => none }
def NandNilsWrongFalsely : Prop := nandNilsRow.holds Try.pinned (OpenSpec.ofChange nandNilsWrong)

/-- 'gabionlaw04.NandBytes': WHATEVER THE INPUT: true; the input reads as it did. -/
def nandBytesSpec : ChangeSpec := { name := "nandBytes", fn := fun _ => fun
  | [d] => { results := [.lit (.bool true)], args := [d] }
  | _ => none }
def nandBytesRow : OpenClaim := { program := "ytphnjiokihbhnaa", sum := "ec45afb4500cb945a23577cf909c948fe4646dddcb94e36d314012b16f0399d1", func := "gabion/gabionlaw04.NandBytes", spec := "nandBytes", unfollowed := true, recurses := true, apart := false }
def NandBytesSaid : Prop := nandBytesRow.holds Try.pinned (OpenSpec.ofChange nandBytesSpec)

/-- ITS FALSE NEIGHBOUR: 'it returns false'. Refute it at one input. -/
def nandBytesWrong : ChangeSpec := { name := "nandBytes", fn := fun _ => fun
  | [d] => { results := [.lit (.bool false)], args := [d] }
  | _ => none }
def NandBytesWrongFalsely : Prop := nandBytesRow.holds Try.pinned (OpenSpec.ofChange nandBytesWrong)

/-- 'gabionlaw04.NandLoads': WHATEVER THE INPUT: true; the input reads as it did. -/
def nandLoadsSpec : ChangeSpec := { name := "nandLoads", fn := fun _ => fun
  | [d] => { results := [.lit (.bool true)], args := [d] }
  | _ => none }
def nandLoadsRow : OpenClaim := { program := "ytphnjiokihbhnaa", sum := "ec45afb4500cb945a23577cf909c948fe4646dddcb94e36d314012b16f0399d1", func := "gabion/gabionlaw04.NandLoads", spec := "nandLoads", unfollowed := true, recurses := true, apart := false }
def NandLoadsSaid : Prop := nandLoadsRow.holds Try.pinned (OpenSpec.ofChange nandLoadsSpec)

/-- ITS FALSE NEIGHBOUR: 'it returns false'. Refute it at one input. -/
def nandLoadsWrong : ChangeSpec := { name := "nandLoads", fn := fun _ => fun
  | [d] => { results := [.lit (.bool false)], args := [d] }
  | _ => none }
def NandLoadsWrongFalsely : Prop := nandLoadsRow.holds Try.pinned (OpenSpec.ofChange nandLoadsWrong)

/- THE SECOND FORM. 'bulk': how many values and letters a reading holds, each counted each time it is reached (what is shared counts as often as it is met; a slice's spare places count too). A statement '..UptoSaid' is the law's where the arguments, and the package variables that the reading takes, are together of bulk at most 1048576: NARROWER than '..Said'. Prove '..Said' where nothing that the law and all that it calls make is longer than what came in: it says more and counts as full. Else prove '..UptoSaid'. A law counts once. -/
mutual
def uptoBulk {H : Type} : DataW H → Nat
  | .lit (.string bytes) => bytes.length + 1
  | .lit _ => 1
  | .nil => 1
  | .ptr d => uptoBulk d + 1
  | .slice elems spare => uptoBulkAll elems + uptoBulkAll spare + 1
  | .agg parts => uptoBulkAll parts + 1
  | .iface _ d => uptoBulk d + 1
  | .map entries => uptoBulkEntries entries + 1
  | .held _ => 1
def uptoBulkAll {H : Type} : List (DataW H) → Nat
  | [] => 0
  | d :: r => uptoBulk d + uptoBulkAll r
def uptoBulkEntries {H : Type} : List (Lit × DataW H) → Nat
  | [] => 0
  | x :: r => uptoBulkEntry x + uptoBulkEntries r
def uptoBulkEntry {H : Type} : Lit × DataW H → Nat
  | (.string bytes, d) => bytes.length + uptoBulk d + 1
  | (_, d) => uptoBulk d + 1
 end
def uptoSmall : (H : Type) → List (DataW H) → Bool := fun _ ds => decide (uptoBulkAll ds ≤ 1048576)
def OpenSpec.upto (s : _root_.Go.ChangeSpec) : _root_.Go.OpenSpec := { _root_.Go.OpenSpec.ofChange s with cond := some uptoSmall }

/-- 'gabionlaw04.NandOrders', WHERE WHAT IT READS IS OF BULK AT MOST 1048576: true; the input reads as it did. -/
def nandOrdersUptoRow : OpenClaim := { program := "ytphnjiokihbhnaa", sum := "ec45afb4500cb945a23577cf909c948fe4646dddcb94e36d314012b16f0399d1", func := "gabion/gabionlaw04.NandOrders", spec := "nandOrders", apart := false, narrowed := true }
def NandOrdersUptoSaid : Prop := nandOrdersUptoRow.holds Try.pinned (OpenSpec.upto nandOrdersSpec)

/-- 'gabionlaw04.NandKeeps', WHERE WHAT IT READS IS OF BULK AT MOST 1048576: true; the input reads as it did. -/
def nandKeepsUptoRow : OpenClaim := { program := "ytphnjiokihbhnaa", sum := "ec45afb4500cb945a23577cf909c948fe4646dddcb94e36d314012b16f0399d1", func := "gabion/gabionlaw04.NandKeeps", spec := "nandKeeps", apart := false, narrowed := true }
def NandKeepsUptoSaid : Prop := nandKeepsUptoRow.holds Try.pinned (OpenSpec.upto nandKeepsSpec)

/-- 'gabionlaw04.NandPlays', WHERE WHAT IT READS IS OF BULK AT MOST 1048576: true; the input reads as it did. -/
def nandPlaysUptoRow : OpenClaim := { program := "ytphnjiokihbhnaa", sum := "ec45afb4500cb945a23577cf909c948fe4646dddcb94e36d314012b16f0399d1", func := "gabion/gabionlaw04.NandPlays", spec := "nandPlays", apart := false, narrowed := true }
def NandPlaysUptoSaid : Prop := nandPlaysUptoRow.holds Try.pinned (OpenSpec.upto nandPlaysSpec)

/-- 'gabionlaw04.NandNils', WHERE WHAT IT READS IS OF BULK AT MOST 1048576: true; the input reads as it did. -/
def nandNilsUptoRow : OpenClaim := { program := "ytphnjiokihbhnaa", sum := "ec45afb4500cb945a23577cf909c948fe4646dddcb94e36d314012b16f0399d1", func := "gabion/gabionlaw04.NandNils", spec := "nandNils", apart := false, narrowed := true }
def NandNilsUptoSaid : Prop := nandNilsUptoRow.holds Try.pinned (OpenSpec.upto nandNilsSpec)

/-- 'gabionlaw04.NandBytes', WHERE WHAT IT READS IS OF BULK AT MOST 1048576: true; the input reads as it did. -/
def nandBytesUptoRow : OpenClaim := { program := "ytphnjiokihbhnaa", sum := "ec45afb4500cb945a23577cf909c948fe4646dddcb94e36d314012b16f0399d1", func := "gabion/gabionlaw04.NandBytes", spec := "nandBytes", unfollowed := true, recurses := true, apart := false, narrowed := true }
def NandBytesUptoSaid : Prop := nandBytesUptoRow.holds Try.pinned (OpenSpec.upto nandBytesSpec)

/-- 'gabionlaw04.NandLoads', WHERE WHAT IT READS IS OF BULK AT MOST 1048576: true; the input reads as it did. -/
def nandLoadsUptoRow : OpenClaim := { program := "ytphnjiokihbhnaa", sum := "ec45afb4500cb945a23577cf909c948fe4646dddcb94e36d314012b16f0399d1", func := "gabion/gabionlaw04.NandLoads", spec := "nandLoads", unfollowed := true, recurses := true, apart := false, narrowed := true }
def NandLoadsUptoSaid : Prop := nandLoadsUptoRow.holds Try.pinned (OpenSpec.upto nandLoadsSpec)

end Rows
end Go.Proofs.Ytphnjiokihbhnaa
