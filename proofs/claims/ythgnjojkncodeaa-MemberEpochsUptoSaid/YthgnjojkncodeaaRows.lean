/-
  No cell of these rows narrows 'for every input' (looked for: loops, veiled, ifaces, maps, wideKeys, modest, calm, conditions, laid).
  DERIVED. THE GIVEN ROWS OF THIS SEAT. 4 by the template 'for every input the law returns true; each argument reads behind the call as it read before'; 0 by the template 'total and deterministic' (their statements: YthgnjojkncodeaaTotals.lean).
  GIVEN WITH THE SEED: the statements are not yours to turn. If you find one false, say at which input.
  Laid BY PROGRAM, IN A SANDBOX (cutbox-rows.mjs): the forced cells as the released guide's own fill.sh prints them over the translation 333088201a805e77… (all of the seat's roots in one cut). By AI agents, Wed Nov 11 2026. No macro, syntax, notation, axiom, sorry.
-/
import Derived.Test.YthgnjojkncodeaaChecked
import GoSem.Claim
import GoSem.ClaimJoined
import GoSem.ClaimMapViews
import Derived.JoinedTies
import Derived.KernelRfl
namespace Go.Proofs.Ythgnjojkncodeaa
/- THE CELL 'sum', in the pinned program and in every row, IS THE sha256 OF THE DUMP (.gsa) THAT YthgnjojkncodeaaProg.lean LOADS. Nothing in Lean hashes anything: it is a label: what it is worth is what the hold of that sum in a sandbox is worth. -/
noncomputable def Try.pinned : Pinned := { name := "ythgnjojkncodeaa", sum := "333088201a805e772183b84419c356f9f4f0f3c71fe133127cb4cefa05fe0b04", checked := Try.checked }
namespace Rows
def none {H : Type} : Left H := { results := [], args := [] }

/-- 'braidworklaw20.MemberBoth': WHATEVER THE INPUT: true; the input reads as it did. -/
def memberBothSpec : ChangeSpec := { name := "memberBoth", fn := fun _ => fun
  | [d] => { results := [.lit (.bool true)], args := [d] }
  | _ => none }
def memberBothRow : OpenClaim := { program := "ythgnjojkncodeaa", sum := "333088201a805e772183b84419c356f9f4f0f3c71fe133127cb4cefa05fe0b04", func := "braidwork/braidworklaw20.MemberBoth", spec := "memberBoth", unfollowed := true, recurses := true, apart := false }
def MemberBothSaid : Prop := memberBothRow.holds Try.pinned (OpenSpec.ofChange memberBothSpec)

/-- ITS FALSE NEIGHBOUR: 'it returns false'. Refute it at one input. -/
def memberBothWrong : ChangeSpec := { name := "memberBoth", fn := fun _ => fun
  | [d] => { results := [.lit (.bool false)], args := [d] }
  | _ => none }
def MemberBothWrongFalsely : Prop := memberBothRow.holds Try.pinned (OpenSpec.ofChange memberBothWrong)

/-- 'braidworklaw20.MemberEpochs': WHATEVER THE INPUT: true; the input reads as it did. -/
def memberEpochsSpec : ChangeSpec := { name := "memberEpochs", fn := fun _ => fun
  | [d] => { results := [.lit (.bool true)], args := [d] }
  | _ => none }
def memberEpochsRow : OpenClaim := { program := "ythgnjojkncodeaa", sum := "333088201a805e772183b84419c356f9f4f0f3c71fe133127cb4cefa05fe0b04", func := "braidwork/braidworklaw20.MemberEpochs", spec := "memberEpochs", unfollowed := true, recurses := true, apart := false }
def MemberEpochsSaid : Prop := memberEpochsRow.holds Try.pinned (OpenSpec.ofChange memberEpochsSpec)

/-- ITS FALSE NEIGHBOUR: 'it returns false'. Refute it at one input. -/
def memberEpochsWrong : ChangeSpec := { name := "memberEpochs", fn := fun _ => fun
  | [d] => { results := [.lit (.bool false)], args := [d] }
  | _ => none }
def MemberEpochsWrongFalsely : Prop := memberEpochsRow.holds Try.pinned (OpenSpec.ofChange memberEpochsWrong)

/-- 'braidworklaw20.MemberKnown': WHATEVER THE INPUT: true; the input reads as it did. -/
def memberKnownSpec : ChangeSpec := { name := "memberKnown", fn := fun _ => fun
  | [] => { results := [.lit (.bool true)], args := [] }
  | _ => none }
def memberKnownRow : OpenClaim := { program := "ythgnjojkncodeaa", sum := "333088201a805e772183b84419c356f9f4f0f3c71fe133127cb4cefa05fe0b04", func := "braidwork/braidworklaw20.MemberKnown", spec := "memberKnown", unfollowed := true, recurses := true, apart := false }
def MemberKnownSaid : Prop := memberKnownRow.holds Try.pinned (OpenSpec.ofChange memberKnownSpec)

/-- ITS FALSE NEIGHBOUR: 'it returns false'. Refute it at one input. -/
def memberKnownWrong : ChangeSpec := { name := "memberKnown", fn := fun _ => fun
  | [] => { results := [.lit (.bool false)], args := [] }
  | _ => none }
def MemberKnownWrongFalsely : Prop := memberKnownRow.holds Try.pinned (OpenSpec.ofChange memberKnownWrong)

/-- 'braidworklaw20.MemberHops': WHATEVER THE INPUT: true; the input reads as it did. -/
def memberHopsSpec : ChangeSpec := { name := "memberHops", fn := fun _ => fun
  | [d] => { results := [.lit (.bool true)], args := [d] }
  | _ => none }
def memberHopsRow : OpenClaim := { program := "ythgnjojkncodeaa", sum := "333088201a805e772183b84419c356f9f4f0f3c71fe133127cb4cefa05fe0b04", func := "braidwork/braidworklaw20.MemberHops", spec := "memberHops", unfollowed := true, recurses := true, apart := false }
def MemberHopsSaid : Prop := memberHopsRow.holds Try.pinned (OpenSpec.ofChange memberHopsSpec)

/-- ITS FALSE NEIGHBOUR: 'it returns false'. Refute it at one input. -/
def memberHopsWrong : ChangeSpec := { name := "memberHops", fn := fun _ => fun
  | [d] => { results := [.lit (.bool false)], args := [d] }
  | _ => none }
def MemberHopsWrongFalsely : Prop := memberHopsRow.holds Try.pinned (OpenSpec.ofChange memberHopsWrong)

/- THE SECOND FORM. 'bulk': how many values and letters a reading holds, each counted each time it is reached (what is shared counts as often as it is met; a slice's spare places count too). A statement '..UptoSaid' is the law's where the arguments, and the package variables that the reading takes, are together of bulk at most 1048576: NARROWER than '..Said'. Prove '..Said' where nothing that the law and all that it calls make is longer than what came in: it says more and counts as full. Else prove '..UptoSaid'. A law counts once. -/
mutual
def uptoBulk {H : Type} : DataW H → Nat
  | .lit (.string bytes) => bytes.length + 1
  | .lit _ => 1
  | .nil => 1
  | .ptr d => uptoBulk d + 1
  | .slice elems spare => uptoBulkAll elems + uptoBulkAll spare + 1
  | .agg parts => uptoBulkAll parts + 1
  | .iface _ d => uptoBulk d + 1
  | .map entries => uptoBulkEntries entries + 1
  | .held _ => 1
def uptoBulkAll {H : Type} : List (DataW H) → Nat
  | [] => 0
  | d :: r => uptoBulk d + uptoBulkAll r
def uptoBulkEntries {H : Type} : List (Lit × DataW H) → Nat
  | [] => 0
  | x :: r => uptoBulkEntry x + uptoBulkEntries r
def uptoBulkEntry {H : Type} : Lit × DataW H → Nat
  | (.string bytes, d) => bytes.length + uptoBulk d + 1
  | (_, d) => uptoBulk d + 1
 end
def uptoSmall : (H : Type) → List (DataW H) → Bool := fun _ ds => decide (uptoBulkAll ds ≤ 1048576)
def OpenSpec.upto (s : _root_.Go.ChangeSpec) : _root_.Go.OpenSpec := { _root_.Go.OpenSpec.ofChange s with cond := some uptoSmall }

/-- 'braidworklaw20.MemberBoth', WHERE WHAT IT READS IS OF BULK AT MOST 1048576: true; the input reads as it did. -/
def memberBothUptoRow : OpenClaim := { program := "ythgnjojkncodeaa", sum := "333088201a805e772183b84419c356f9f4f0f3c71fe133127cb4cefa05fe0b04", func := "braidwork/braidworklaw20.MemberBoth", spec := "memberBoth", unfollowed := true, recurses := true, apart := false, narrowed := true }
def MemberBothUptoSaid : Prop := memberBothUptoRow.holds Try.pinned (OpenSpec.upto memberBothSpec)

/-- 'braidworklaw20.MemberEpochs', WHERE WHAT IT READS IS OF BULK AT MOST 1048576: true; the input reads as it did. -/
def memberEpochsUptoRow : OpenClaim := { program := "ythgnjojkncodeaa", sum := "333088201a805e772183b84419c356f9f4f0f3c71fe133127cb4cefa05fe0b04", func := "braidwork/braidworklaw20.MemberEpochs", spec := "memberEpochs", unfollowed := true, recurses := true, apart := false, narrowed := true }
def MemberEpochsUptoSaid : Prop := memberEpochsUptoRow.holds Try.pinned (OpenSpec.upto memberEpochsSpec)

/-- 'braidworklaw20.MemberKnown', WHERE WHAT IT READS IS OF BULK AT MOST 1048576: true; the input reads as it did. -/
def memberKnownUptoRow : OpenClaim := { program := "ythgnjojkncodeaa", sum := "333088201a805e772183b84419c356f9f4f0f3c71fe133127cb4cefa05fe0b04", func := "braidwork/braidworklaw20.MemberKnown", spec := "memberKnown", unfollowed := true, recurses := true, apart := false, narrowed := true }
def MemberKnownUptoSaid : Prop := memberKnownUptoRow.holds Try.pinned (OpenSpec.upto memberKnownSpec)

/-- 'braidworklaw20.MemberHops', WHERE WHAT IT READS IS OF BULK AT MOST 1048576: true; the input reads as it did. -/
def memberHopsUptoRow : OpenClaim := { program := "ythgnjojkncodeaa", sum := "333088201a805e772183b84419c356f9f4f0f3c71fe133127cb4cefa05fe0b04", func := "braidwork/braidworklaw20.MemberHops", spec := "memberHops", unfollowed := true, recurses := true, apart := false, narrowed := true }
def MemberHopsUptoSaid : Prop := memberHopsUptoRow.holds Try.pinned (OpenSpec.upto memberHopsSpec)

end Rows
end Go.Proofs.Ythgnjojkncodeaa
