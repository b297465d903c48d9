/-
  No cell of these rows narrows 'for every input' (looked for: loops, veiled, ifaces, maps, wideKeys, modest, calm, conditions, laid).
  DERIVED. THE GIVEN ROWS OF THIS SEAT. 3 by the template 'for every input the law returns true; each argument reads behind the call as it read before'; 0 by the template 'total and deterministic' (their statements: YtbiklmpkkbncgaaGreatTotals.lean).
  GIVEN WITH THE SEED: the statements are not yours to turn. If you find one false, say at which input.
  Laid BY PROGRAM, IN A SANDBOX (cutbox-rows.mjs): the forced cells as the released guide's own fill.sh prints them over the translation dc513cb0e14b266e… (all of the seat's roots in one cut). By AI agents, Wed Nov 11 2026. No macro, syntax, notation, axiom, sorry.
-/
import Derived.Test.YtbiklmpkkbncgaaGreatChecked
import GoSem.Claim
import GoSem.ClaimJoined
import GoSem.ClaimMapViews
import Derived.JoinedTies
import Derived.KernelRfl
namespace Go.Proofs.YtbiklmpkkbncgaaGreat
/- THE CELL 'sum', in the pinned program and in every row, IS THE sha256 OF THE DUMP (.gsa) THAT YtbiklmpkkbncgaaGreatProg.lean LOADS. Nothing in Lean hashes anything: it is a label: what it is worth is what the hold of that sum in a sandbox is worth. -/
noncomputable def Tryz.pinned : Pinned := { name := "ytbiklmpkkbncgaagreat", sum := "dc513cb0e14b266e1865bbcb1d1d6a2737dd075cd3f70c4064c7fbe9dc68ef2e", checked := Tryz.checked }
namespace Rows
def none {H : Type} : Left H := { results := [], args := [] }

/-- 'foundrylaw19.VmPieces': WHATEVER THE INPUT: true; the input reads as it did. -/
def vmPiecesSpec : ChangeSpec := { name := "vmPieces", fn := fun _ => fun
  | [d1, d2, d3] => { results := [.lit (.bool true)], args := [d1, d2, d3] }
  | _ => none }
def vmPiecesRow : OpenClaim := { program := "ytbiklmpkkbncgaagreat", sum := "dc513cb0e14b266e1865bbcb1d1d6a2737dd075cd3f70c4064c7fbe9dc68ef2e", func := "foundry/foundrylaw19.VmPieces", spec := "vmPieces", inPlace := ["math.Float64frombits", "math.archTrunc", "math.Float64bits"], unfollowed := true, recurses := true, apart := false }
def VmPiecesSaid : Prop := vmPiecesRow.holds Tryz.pinned (OpenSpec.ofChange vmPiecesSpec)

/-- ITS FALSE NEIGHBOUR: 'it returns false'. Refute it at one input. -/
def vmPiecesWrong : ChangeSpec := { name := "vmPieces", fn := fun _ => fun
  | [d1, d2, d3] => { results := [.lit (.bool false)], args := [d1, d2, d3] }
  | _ => none }
def VmPiecesWrongFalsely : Prop := vmPiecesRow.holds Tryz.pinned (OpenSpec.ofChange vmPiecesWrong)

/-- 'foundrylaw19.VmInput': WHATEVER THE INPUT: true; the input reads as it did. -/
def vmInputSpec : ChangeSpec := { name := "vmInput", fn := fun _ => fun
  | [d1, d2, d3, d4] => { results := [.lit (.bool true)], args := [d1, d2, d3, d4] }
  | _ => none }
def vmInputRow : OpenClaim := { program := "ytbiklmpkkbncgaagreat", sum := "dc513cb0e14b266e1865bbcb1d1d6a2737dd075cd3f70c4064c7fbe9dc68ef2e", func := "foundry/foundrylaw19.VmInput", spec := "vmInput", inPlace := ["math.Float64frombits", "math.archTrunc", "math.Float64bits"], unfollowed := true, recurses := true, apart := false }
def VmInputSaid : Prop := vmInputRow.holds Tryz.pinned (OpenSpec.ofChange vmInputSpec)

/-- ITS FALSE NEIGHBOUR: 'it returns false'. Refute it at one input. -/
def vmInputWrong : ChangeSpec := { name := "vmInput", fn := fun _ => fun
  | [d1, d2, d3, d4] => { results := [.lit (.bool false)], args := [d1, d2, d3, d4] }
  | _ => none }
def VmInputWrongFalsely : Prop := vmInputRow.holds Tryz.pinned (OpenSpec.ofChange vmInputWrong)

/-- 'foundrylaw19.VmNils': WHATEVER THE INPUT: true; the input reads as it did. -/
def vmNilsSpec : ChangeSpec := { name := "vmNils", fn := fun _ => fun
  | [d] => { results := [.lit (.bool true)], args := [d] }
  | _ => none }
def vmNilsRow : OpenClaim := { program := "ytbiklmpkkbncgaagreat", sum := "dc513cb0e14b266e1865bbcb1d1d6a2737dd075cd3f70c4064c7fbe9dc68ef2e", func := "foundry/foundrylaw19.VmNils", spec := "vmNils", inPlace := ["math.Float64frombits", "math.archTrunc", "math.Float64bits"], unfollowed := true, recurses := true, apart := false }
def VmNilsSaid : Prop := vmNilsRow.holds Tryz.pinned (OpenSpec.ofChange vmNilsSpec)

/-- ITS FALSE NEIGHBOUR: 'it returns false'. Refute it at one input. -/
def vmNilsWrong : ChangeSpec := { name := "vmNils", fn := fun _ => fun
  | [d] => { results := [.lit (.bool false)], args := [d] }
  | _ => none }
def VmNilsWrongFalsely : Prop := vmNilsRow.holds Tryz.pinned (OpenSpec.ofChange vmNilsWrong)

/- THE SECOND FORM. 'bulk': how many values and letters a reading holds, each counted each time it is reached (what is shared counts as often as it is met; a slice's spare places count too). A statement '..UptoSaid' is the law's where the arguments, and the package variables that the reading takes, are together of bulk at most 1048576: NARROWER than '..Said'. Prove '..Said' where nothing that the law and all that it calls make is longer than what came in: it says more and counts as full. Else prove '..UptoSaid'. A law counts once. -/
mutual
def uptoBulk {H : Type} : DataW H → Nat
  | .lit (.string bytes) => bytes.length + 1
  | .lit _ => 1
  | .nil => 1
  | .ptr d => uptoBulk d + 1
  | .slice elems spare => uptoBulkAll elems + uptoBulkAll spare + 1
  | .agg parts => uptoBulkAll parts + 1
  | .iface _ d => uptoBulk d + 1
  | .map entries => uptoBulkEntries entries + 1
  | .held _ => 1
def uptoBulkAll {H : Type} : List (DataW H) → Nat
  | [] => 0
  | d :: r => uptoBulk d + uptoBulkAll r
def uptoBulkEntries {H : Type} : List (Lit × DataW H) → Nat
  | [] => 0
  | x :: r => uptoBulkEntry x + uptoBulkEntries r
def uptoBulkEntry {H : Type} : Lit × DataW H → Nat
  | (.string bytes, d) => bytes.length + uptoBulk d + 1
  | (_, d) => uptoBulk d + 1
 end
def uptoSmall : (H : Type) → List (DataW H) → Bool := fun _ ds => decide (uptoBulkAll ds ≤ 1048576)
def OpenSpec.upto (s : _root_.Go.ChangeSpec) : _root_.Go.OpenSpec := { _root_.Go.OpenSpec.ofChange s with cond := some uptoSmall }

/-- 'foundrylaw19.VmPieces', WHERE WHAT IT READS IS OF BULK AT MOST 1048576: true; the input reads as it did. -/
def vmPiecesUptoRow : OpenClaim := { program := "ytbiklmpkkbncgaagreat", sum := "dc513cb0e14b266e1865bbcb1d1d6a2737dd075cd3f70c4064c7fbe9dc68ef2e", func := "foundry/foundrylaw19.VmPieces", spec := "vmPieces", inPlace := ["math.Float64frombits", "math.archTrunc", "math.Float64bits"], unfollowed := true, recurses := true, apart := false, narrowed := true }
def VmPiecesUptoSaid : Prop := vmPiecesUptoRow.holds Tryz.pinned (OpenSpec.upto vmPiecesSpec)

/-- 'foundrylaw19.VmInput', WHERE WHAT IT READS IS OF BULK AT MOST 1048576: true; the input reads as it did. -/
def vmInputUptoRow : OpenClaim := { program := "ytbiklmpkkbncgaagreat", sum := "dc513cb0e14b266e1865bbcb1d1d6a2737dd075cd3f70c4064c7fbe9dc68ef2e", func := "foundry/foundrylaw19.VmInput", spec := "vmInput", inPlace := ["math.Float64frombits", "math.archTrunc", "math.Float64bits"], unfollowed := true, recurses := true, apart := false, narrowed := true }
def VmInputUptoSaid : Prop := vmInputUptoRow.holds Tryz.pinned (OpenSpec.upto vmInputSpec)

/-- 'foundrylaw19.VmNils', WHERE WHAT IT READS IS OF BULK AT MOST 1048576: true; the input reads as it did. -/
def vmNilsUptoRow : OpenClaim := { program := "ytbiklmpkkbncgaagreat", sum := "dc513cb0e14b266e1865bbcb1d1d6a2737dd075cd3f70c4064c7fbe9dc68ef2e", func := "foundry/foundrylaw19.VmNils", spec := "vmNils", inPlace := ["math.Float64frombits", "math.archTrunc", "math.Float64bits"], unfollowed := true, recurses := true, apart := false, narrowed := true }
def VmNilsUptoSaid : Prop := vmNilsUptoRow.holds Tryz.pinned (OpenSpec.upto vmNilsSpec)

end Rows
end Go.Proofs.YtbiklmpkkbncgaaGreat
