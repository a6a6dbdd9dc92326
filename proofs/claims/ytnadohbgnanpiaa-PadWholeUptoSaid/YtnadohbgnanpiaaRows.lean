/-
  No cell of these rows narrows 'for every input' (looked for: loops, veiled, ifaces, maps, wideKeys, modest, calm, conditions, laid).
  DERIVED. THE GIVEN ROWS OF THIS SEAT. 6 by the template 'for every input the law returns true; each argument reads behind the call as it read before'; 0 by the template 'total and deterministic' (their statements: YtnadohbgnanpiaaTotals.lean).
  GIVEN WITH THE SEED: the statements are not yours to turn. If you find one false, say at which input.
  Laid BY PROGRAM, IN A SANDBOX (cutbox-rows.mjs): the forced cells as the released guide's own fill.sh prints them over the translation d387a8e1b4f3e2eb… (all of the seat's roots in one cut). By AI agents, Wed Nov 11 2026. No macro, syntax, notation, axiom, sorry.
-/
import Derived.Test.YtnadohbgnanpiaaChecked
import GoSem.Claim
import GoSem.ClaimJoined
import GoSem.ClaimMapViews
import Derived.JoinedTies
import Derived.KernelRfl
namespace Go.Proofs.Ytnadohbgnanpiaa
/- THE CELL 'sum', in the pinned program and in every row, IS THE sha256 OF THE DUMP (.gsa) THAT YtnadohbgnanpiaaProg.lean LOADS. Nothing in Lean hashes anything: it is a label: what it is worth is what the hold of that sum in a sandbox is worth. -/
noncomputable def Try.pinned : Pinned := { name := "ytnadohbgnanpiaa", sum := "d387a8e1b4f3e2ebbcbe93df5f7e8c6bd570fd1f005568c9594de6a954f797dc", checked := Try.checked }
namespace Rows
def none {H : Type} : Left H := { results := [], args := [] }

/-- 'braidworklaw09.PadKnown': WHATEVER THE INPUT: true; the input reads as it did. -/
def padKnownSpec : ChangeSpec := { name := "padKnown", fn := fun _ => fun
  | [] => { results := [.lit (.bool true)], args := [] }
  | _ => none }
def padKnownRow : OpenClaim := { program := "ytnadohbgnanpiaa", sum := "d387a8e1b4f3e2ebbcbe93df5f7e8c6bd570fd1f005568c9594de6a954f797dc", func := "braidwork/braidworklaw09.PadKnown", spec := "padKnown", inPlace := ["internal/bytealg.MakeNoZero"], unfollowed := true, recurses := true, apart := false }
def PadKnownSaid : Prop := padKnownRow.holds Try.pinned (OpenSpec.ofChange padKnownSpec)

/-- ITS FALSE NEIGHBOUR: 'it returns false'. Refute it at one input. -/
def padKnownWrong : ChangeSpec := { name := "padKnown", fn := fun _ => fun
  | [] => { results := [.lit (.bool false)], args := [] }
  | _ => none }
def PadKnownWrongFalsely : Prop := padKnownRow.holds Try.pinned (OpenSpec.ofChange padKnownWrong)

/-- 'braidworklaw09.PadLays': WHATEVER THE INPUT: true; the input reads as it did. -/
def padLaysSpec : ChangeSpec := { name := "padLays", fn := fun _ => fun
  | [d1, d2, d3] => { results := [.lit (.bool true)], args := [d1, d2, d3] }
  | _ => none }
def padLaysRow : OpenClaim := { program := "ytnadohbgnanpiaa", sum := "d387a8e1b4f3e2ebbcbe93df5f7e8c6bd570fd1f005568c9594de6a954f797dc", func := "braidwork/braidworklaw09.PadLays", spec := "padLays", inPlace := ["internal/bytealg.MakeNoZero"], unfollowed := true, recurses := true, apart := false }
def PadLaysSaid : Prop := padLaysRow.holds Try.pinned (OpenSpec.ofChange padLaysSpec)

/-- ITS FALSE NEIGHBOUR: 'it returns false'. Refute it at one input. -/
def padLaysWrong : ChangeSpec := { name := "padLays", fn := fun _ => fun
  | [d1, d2, d3] => { results := [.lit (.bool false)], args := [d1, d2, d3] }
  | _ => none }
def PadLaysWrongFalsely : Prop := padLaysRow.holds Try.pinned (OpenSpec.ofChange padLaysWrong)

/-- 'braidworklaw09.PadChunks': WHATEVER THE INPUT: true; the input reads as it did. -/
def padChunksSpec : ChangeSpec := { name := "padChunks", fn := fun _ => fun
  | [d1, d2, d3] => { results := [.lit (.bool true)], args := [d1, d2, d3] }
  | _ => none }
def padChunksRow : OpenClaim := { program := "ytnadohbgnanpiaa", sum := "d387a8e1b4f3e2ebbcbe93df5f7e8c6bd570fd1f005568c9594de6a954f797dc", func := "braidwork/braidworklaw09.PadChunks", spec := "padChunks", inPlace := ["internal/bytealg.MakeNoZero"], unfollowed := true, recurses := true, apart := false }
def PadChunksSaid : Prop := padChunksRow.holds Try.pinned (OpenSpec.ofChange padChunksSpec)

/-- ITS FALSE NEIGHBOUR: 'it returns false'. Refute it at one input. -/
def padChunksWrong : ChangeSpec := { name := "padChunks", fn := fun _ => fun
  | [d1, d2, d3] => { results := [.lit (.bool false)], args := [d1, d2, d3] }
  | _ => none }
def PadChunksWrongFalsely : Prop := padChunksRow.holds Try.pinned (OpenSpec.ofChange padChunksWrong)

/-- 'braidworklaw09.PadBack': WHATEVER THE INPUT: true; the input reads as it did. -/
def padBackSpec : ChangeSpec := { name := "padBack", fn := fun _ => fun
  | [d1, d2, d3] => { results := [.lit (.bool true)], args := [d1, d2, d3] }
  | _ => none }
def padBackRow : OpenClaim := { program := "ytnadohbgnanpiaa", sum := "d387a8e1b4f3e2ebbcbe93df5f7e8c6bd570fd1f005568c9594de6a954f797dc", func := "braidwork/braidworklaw09.PadBack", spec := "padBack", inPlace := ["internal/bytealg.MakeNoZero"], unfollowed := true, recurses := true, apart := false }
def PadBackSaid : Prop := padBackRow.holds Try.pinned (OpenSpec.ofChange padBackSpec)

/-- ITS FALSE NEIGHBOUR: 'it returns false'. Refute it at one input. -/
def padBackWrong : ChangeSpec := { name := "padBack", fn := fun _ => fun
  | [d1, d2, d3] => { results := [.lit (.bool false)], args := [d1, d2, d3] }
  | _ => none }
def PadBackWrongFalsely : Prop := padBackRow.holds Try.pinned (OpenSpec.ofChange padBackWrong)

/-- 'braidworklaw09.PadWhole': WHATEVER THE INPUT: true; the input reads as it did. -/
def padWholeSpec : ChangeSpec := { name := "padWhole", fn := fun _ => fun
  | [d] => { results := [.lit (.bool true)], args := [d] }
  | _ => none }
def padWholeRow : OpenClaim := { program := "ytnadohbgnanpiaa", sum := "d387a8e1b4f3e2ebbcbe93df5f7e8c6bd570fd1f005568c9594de6a954f797dc", func := "braidwork/braidworklaw09.PadWhole", spec := "padWhole", inPlace := ["internal/bytealg.MakeNoZero"], unfollowed := true, recurses := true, apart := false }
def PadWholeSaid : Prop := padWholeRow.holds Try.pinned (OpenSpec.ofChange padWholeSpec)

/-- ITS FALSE NEIGHBOUR: 'it returns false'. Refute it at one input. -/
def padWholeWrong : ChangeSpec := { name := "padWhole", fn := fun _ => fun
  | [d] => { results := [.lit (.bool false)], args := [d] }
  | _ => none }
def PadWholeWrongFalsely : Prop := padWholeRow.holds Try.pinned (OpenSpec.ofChange padWholeWrong)

/-- 'braidworklaw09.PadParts': WHATEVER THE INPUT: true; the input reads as it did. -/
def padPartsSpec : ChangeSpec := { name := "padParts", fn := fun _ => fun
  | [d1, d2, d3] => { results := [.lit (.bool true)], args := [d1, d2, d3] }
  | _ => none }
def padPartsRow : OpenClaim := { program := "ytnadohbgnanpiaa", sum := "d387a8e1b4f3e2ebbcbe93df5f7e8c6bd570fd1f005568c9594de6a954f797dc", func := "braidwork/braidworklaw09.PadParts", spec := "padParts", inPlace := ["internal/bytealg.MakeNoZero"], unfollowed := true, recurses := true, apart := false }
def PadPartsSaid : Prop := padPartsRow.holds Try.pinned (OpenSpec.ofChange padPartsSpec)

/-- ITS FALSE NEIGHBOUR: 'it returns false'. Refute it at one input. -/
def padPartsWrong : ChangeSpec := { name := "padParts", fn := fun _ => fun
  | [d1, d2, d3] => { results := [.lit (.bool false)], args := [d1, d2, d3] }
  | _ => none }
def PadPartsWrongFalsely : Prop := padPartsRow.holds Try.pinned (OpenSpec.ofChange padPartsWrong)

/- THE SECOND FORM. 'bulk': how many values and letters a reading holds, each counted each time it is reached (what is shared counts as often as it is met; a slice's spare places count too). A statement '..UptoSaid' is the law's where the arguments, and the package variables that the reading takes, are together of bulk at most 1048576: NARROWER than '..Said'. Prove '..Said' where nothing that the law and all that it calls make is longer than what came in: it says more and counts as full. Else prove '..UptoSaid'. A law counts once. -/
mutual
def uptoBulk {H : Type} : DataW H → Nat
  | .lit (.string bytes) => bytes.length + 1
  | .lit _ => 1
  | .nil => 1
  | .ptr d => uptoBulk d + 1
  | .slice elems spare => uptoBulkAll elems + uptoBulkAll spare + 1
  | .agg parts => uptoBulkAll parts + 1
  | .iface _ d => uptoBulk d + 1
  | .map entries => uptoBulkEntries entries + 1
  | .held _ => 1
def uptoBulkAll {H : Type} : List (DataW H) → Nat
  | [] => 0
  | d :: r => uptoBulk d + uptoBulkAll r
def uptoBulkEntries {H : Type} : List (Lit × DataW H) → Nat
  | [] => 0
  | x :: r => uptoBulkEntry x + uptoBulkEntries r
def uptoBulkEntry {H : Type} : Lit × DataW H → Nat
  | (.string bytes, d) => bytes.length + uptoBulk d + 1
  | (_, d) => uptoBulk d + 1
 end
def uptoSmall : (H : Type) → List (DataW H) → Bool := fun _ ds => decide (uptoBulkAll ds ≤ 1048576)
def OpenSpec.upto (s : _root_.Go.ChangeSpec) : _root_.Go.OpenSpec := { _root_.Go.OpenSpec.ofChange s with cond := some uptoSmall }

/-- 'braidworklaw09.PadKnown', WHERE WHAT IT READS IS OF BULK AT MOST 1048576: true; the input reads as it did. -/
def padKnownUptoRow : OpenClaim := { program := "ytnadohbgnanpiaa", sum := "d387a8e1b4f3e2ebbcbe93df5f7e8c6bd570fd1f005568c9594de6a954f797dc", func := "braidwork/braidworklaw09.PadKnown", spec := "padKnown", inPlace := ["internal/bytealg.MakeNoZero"], unfollowed := true, recurses := true, apart := false, narrowed := true }
def PadKnownUptoSaid : Prop := padKnownUptoRow.holds Try.pinned (OpenSpec.upto padKnownSpec)

/-- 'braidworklaw09.PadLays', WHERE WHAT IT READS IS OF BULK AT MOST 1048576: true; the input reads as it did. -/
def padLaysUptoRow : OpenClaim := { program := "ytnadohbgnanpiaa", sum := "d387a8e1b4f3e2ebbcbe93df5f7e8c6bd570fd1f005568c9594de6a954f797dc", func := "braidwork/braidworklaw09.PadLays", spec := "padLays", inPlace := ["internal/bytealg.MakeNoZero"], unfollowed := true, recurses := true, apart := false, narrowed := true }
def PadLaysUptoSaid : Prop := padLaysUptoRow.holds Try.pinned (OpenSpec.upto padLaysSpec)

/-- 'braidworklaw09.PadChunks', WHERE WHAT IT READS IS OF BULK AT MOST 1048576: true; the input reads as it did. -/
def padChunksUptoRow : OpenClaim := { program := "ytnadohbgnanpiaa", sum := "d387a8e1b4f3e2ebbcbe93df5f7e8c6bd570fd1f005568c9594de6a954f797dc", func := "braidwork/braidworklaw09.PadChunks", spec := "padChunks", inPlace := ["internal/bytealg.MakeNoZero"], unfollowed := true, recurses := true, apart := false, narrowed := true }
def PadChunksUptoSaid : Prop := padChunksUptoRow.holds Try.pinned (OpenSpec.upto padChunksSpec)

/-- 'braidworklaw09.PadBack', WHERE WHAT IT READS IS OF BULK AT MOST 1048576: true; the input reads as it did. -/
def padBackUptoRow : OpenClaim := { program := "ytnadohbgnanpiaa", sum := "d387a8e1b4f3e2ebbcbe93df5f7e8c6bd570fd1f005568c9594de6a954f797dc", func := "braidwork/braidworklaw09.PadBack", spec := "padBack", inPlace := ["internal/bytealg.MakeNoZero"], unfollowed := true, recurses := true, apart := false, narrowed := true }
def PadBackUptoSaid : Prop := padBackUptoRow.holds Try.pinned (OpenSpec.upto padBackSpec)

/-- 'braidworklaw09.PadWhole', WHERE WHAT IT READS IS OF BULK AT MOST 1048576: true; the input reads as it did. -/
def padWholeUptoRow : OpenClaim := { program := "ytnadohbgnanpiaa", sum := "d387a8e1b4f3e2ebbcbe93df5f7e8c6bd570fd1f005568c9594de6a954f797dc", func := "braidwork/braidworklaw09.PadWhole", spec := "padWhole", inPlace := ["internal/bytealg.MakeNoZero"], unfollowed := true, recurses := true, apart := false, narrowed := true }
def PadWholeUptoSaid : Prop := padWholeUptoRow.holds Try.pinned (OpenSpec.upto padWholeSpec)

/-- 'braidworklaw09.PadParts', WHERE WHAT IT READS IS OF BULK AT MOST 1048576: true; the input reads as it did. -/
def padPartsUptoRow : OpenClaim := { program := "ytnadohbgnanpiaa", sum := "d387a8e1b4f3e2ebbcbe93df5f7e8c6bd570fd1f005568c9594de6a954f797dc", func := "braidwork/braidworklaw09.PadParts", spec := "padParts", inPlace := ["internal/bytealg.MakeNoZero"], unfollowed := true, recurses := true, apart := false, narrowed := true }
def PadPartsUptoSaid : Prop := padPartsUptoRow.holds Try.pinned (OpenSpec.upto padPartsSpec)

end Rows
end Go.Proofs.Ytnadohbgnanpiaa
