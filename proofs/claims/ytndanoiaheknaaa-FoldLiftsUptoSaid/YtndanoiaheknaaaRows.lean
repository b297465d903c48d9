/-
  NARROWER THAN 'FOR EVERY INPUT', by the rows' own cells (each row's printed sentence says how): FoldLifts: loops · FoldExtra: loops.
  DERIVED. THE GIVEN ROWS OF THIS SEAT. 4 by the template 'for every input the law returns true; each argument reads behind the call as it read before'; 0 by the template 'total and deterministic' (their statements: YtndanoiaheknaaaTotals.lean).
  GIVEN WITH THE SEED: the statements are not yours to turn. If you find one false, say at which input.
  Laid BY PROGRAM, IN A SANDBOX (cutbox-rows.mjs): the forced cells as the released guide's own fill.sh prints them over the translation 76822e3a566ac23f… (all of the seat's roots in one cut). By AI agents, Wed Nov 11 2026. No macro, syntax, notation, axiom, sorry.
-/
import Derived.Test.YtndanoiaheknaaaChecked
import GoSem.Claim
import GoSem.ClaimJoined
import GoSem.ClaimMapViews
import Derived.JoinedTies
import Derived.KernelRfl
namespace Go.Proofs.Ytndanoiaheknaaa
/- THE CELL 'sum', in the pinned program and in every row, IS THE sha256 OF THE DUMP (.gsa) THAT YtndanoiaheknaaaProg.lean LOADS. Nothing in Lean hashes anything: it is a label: what it is worth is what the hold of that sum in a sandbox is worth. -/
noncomputable def Try.pinned : Pinned := { name := "ytndanoiaheknaaa", sum := "76822e3a566ac23fda4f5606fae331a0c761b7c6a12313297c50cb42b814d20e", checked := Try.checked }
namespace Rows
def none {H : Type} : Left H := { results := [], args := [] }

/-- 'foundrylaw09.FoldLaws': WHATEVER THE INPUT: true; the input reads as it did. -/
def foldLawsSpec : ChangeSpec := { name := "foldLaws", fn := fun _ => fun
  | [d1, d2] => { results := [.lit (.bool true)], args := [d1, d2] }
  | _ => none }
def foldLawsRow : OpenClaim := { program := "ytndanoiaheknaaa", sum := "76822e3a566ac23fda4f5606fae331a0c761b7c6a12313297c50cb42b814d20e", func := "foundry/foundrylaw09.FoldLaws", spec := "foldLaws", inPlace := ["math.Float64frombits", "math.Float64bits", "math.archTrunc"], unfollowed := true, recurses := true, apart := false }
def FoldLawsSaid : Prop := foldLawsRow.holds Try.pinned (OpenSpec.ofChange foldLawsSpec)

/-- ITS FALSE NEIGHBOUR: 'it returns false'. Refute it at one input. -/
def foldLawsWrong : ChangeSpec := { name := "foldLaws", fn := fun _ => fun
  | [d1, d2] => { results := [.lit (.bool false)], args := [d1, d2] }
  | _ => none }
def FoldLawsWrongFalsely : Prop := foldLawsRow.holds Try.pinned (OpenSpec.ofChange foldLawsWrong)

/-- 'foundrylaw09.FoldLifts': WHATEVER THE INPUT: true; the input reads as it did. -/
def foldLiftsSpec : ChangeSpec := { name := "foldLifts", fn := fun _ => fun
  | [d1, d2, d3] => { results := [.lit (.bool true)], args := [d1, d2, d3] }
  | _ => none }
def foldLiftsRow : OpenClaim := { program := "ytndanoiaheknaaa", sum := "76822e3a566ac23fda4f5606fae331a0c761b7c6a12313297c50cb42b814d20e", func := "foundry/foundrylaw09.FoldLifts", spec := "foldLifts", inPlace := ["math.Float64frombits", "math.Float64bits", "math.archTrunc"], unfollowed := true, recurses := true, loops := true, apart := false }
def FoldLiftsSaid : Prop := foldLiftsRow.holds Try.pinned (OpenSpec.ofChange foldLiftsSpec)

/-- ITS FALSE NEIGHBOUR: 'it returns false'. Refute it at one input. -/
def foldLiftsWrong : ChangeSpec := { name := "foldLifts", fn := fun _ => fun
  | [d1, d2, d3] => { results := [.lit (.bool false)], args := [d1, d2, d3] }
  | _ => none }
def FoldLiftsWrongFalsely : Prop := foldLiftsRow.holds Try.pinned (OpenSpec.ofChange foldLiftsWrong)

/-- 'foundrylaw09.FoldExtra': WHATEVER THE INPUT: true; the input reads as it did. -/
def foldExtraSpec : ChangeSpec := { name := "foldExtra", fn := fun _ => fun
  | [d1, d2, d3] => { results := [.lit (.bool true)], args := [d1, d2, d3] }
  | _ => none }
def foldExtraRow : OpenClaim := { program := "ytndanoiaheknaaa", sum := "76822e3a566ac23fda4f5606fae331a0c761b7c6a12313297c50cb42b814d20e", func := "foundry/foundrylaw09.FoldExtra", spec := "foldExtra", inPlace := ["math.Float64frombits", "math.archTrunc", "math.Float64bits"], unfollowed := true, recurses := true, loops := true, apart := false }
def FoldExtraSaid : Prop := foldExtraRow.holds Try.pinned (OpenSpec.ofChange foldExtraSpec)

/-- ITS FALSE NEIGHBOUR: 'it returns false'. Refute it at one input. -/
def foldExtraWrong : ChangeSpec := { name := "foldExtra", fn := fun _ => fun
  | [d1, d2, d3] => { results := [.lit (.bool false)], args := [d1, d2, d3] }
  | _ => none }
def FoldExtraWrongFalsely : Prop := foldExtraRow.holds Try.pinned (OpenSpec.ofChange foldExtraWrong)

/-- 'foundrylaw09.FoldFars': WHATEVER THE INPUT: true; the input reads as it did. -/
def foldFarsSpec : ChangeSpec := { name := "foldFars", fn := fun _ => fun
  | [d] => { results := [.lit (.bool true)], args := [d] }
  | _ => none }
def foldFarsRow : OpenClaim := { program := "ytndanoiaheknaaa", sum := "76822e3a566ac23fda4f5606fae331a0c761b7c6a12313297c50cb42b814d20e", func := "foundry/foundrylaw09.FoldFars", spec := "foldFars", inPlace := ["math.Float64frombits", "math.Float64bits", "math.archTrunc"], unfollowed := true, recurses := true, apart := false }
def FoldFarsSaid : Prop := foldFarsRow.holds Try.pinned (OpenSpec.ofChange foldFarsSpec)

/-- ITS FALSE NEIGHBOUR: 'it returns false'. Refute it at one input. -/
def foldFarsWrong : ChangeSpec := { name := "foldFars", fn := fun _ => fun
  | [d] => { results := [.lit (.bool false)], args := [d] }
  | _ => none }
def FoldFarsWrongFalsely : Prop := foldFarsRow.holds Try.pinned (OpenSpec.ofChange foldFarsWrong)

/- THE SECOND FORM. 'bulk': how many values and letters a reading holds, each counted each time it is reached (what is shared counts as often as it is met; a slice's spare places count too). A statement '..UptoSaid' is the law's where the arguments, and the package variables that the reading takes, are together of bulk at most 1048576: NARROWER than '..Said'. Prove '..Said' where nothing that the law and all that it calls make is longer than what came in: it says more and counts as full. Else prove '..UptoSaid'. A law counts once. -/
mutual
def uptoBulk {H : Type} : DataW H → Nat
  | .lit (.string bytes) => bytes.length + 1
  | .lit _ => 1
  | .nil => 1
  | .ptr d => uptoBulk d + 1
  | .slice elems spare => uptoBulkAll elems + uptoBulkAll spare + 1
  | .agg parts => uptoBulkAll parts + 1
  | .iface _ d => uptoBulk d + 1
  | .map entries => uptoBulkEntries entries + 1
  | .held _ => 1
def uptoBulkAll {H : Type} : List (DataW H) → Nat
  | [] => 0
  | d :: r => uptoBulk d + uptoBulkAll r
def uptoBulkEntries {H : Type} : List (Lit × DataW H) → Nat
  | [] => 0
  | x :: r => uptoBulkEntry x + uptoBulkEntries r
def uptoBulkEntry {H : Type} : Lit × DataW H → Nat
  | (.string bytes, d) => bytes.length + uptoBulk d + 1
  | (_, d) => uptoBulk d + 1
 end
def uptoSmall : (H : Type) → List (DataW H) → Bool := fun _ ds => decide (uptoBulkAll ds ≤ 1048576)
def OpenSpec.upto (s : _root_.Go.ChangeSpec) : _root_.Go.OpenSpec := { _root_.Go.OpenSpec.ofChange s with cond := some uptoSmall }

/-- 'foundrylaw09.FoldLaws', WHERE WHAT IT READS IS OF BULK AT MOST 1048576: true; the input reads as it did. -/
def foldLawsUptoRow : OpenClaim := { program := "ytndanoiaheknaaa", sum := "76822e3a566ac23fda4f5606fae331a0c761b7c6a12313297c50cb42b814d20e", func := "foundry/foundrylaw09.FoldLaws", spec := "foldLaws", inPlace := ["math.Float64frombits", "math.Float64bits", "math.archTrunc"], unfollowed := true, recurses := true, apart := false, narrowed := true }
def FoldLawsUptoSaid : Prop := foldLawsUptoRow.holds Try.pinned (OpenSpec.upto foldLawsSpec)

/-- 'foundrylaw09.FoldLifts', WHERE WHAT IT READS IS OF BULK AT MOST 1048576: true; the input reads as it did. -/
def foldLiftsUptoRow : OpenClaim := { program := "ytndanoiaheknaaa", sum := "76822e3a566ac23fda4f5606fae331a0c761b7c6a12313297c50cb42b814d20e", func := "foundry/foundrylaw09.FoldLifts", spec := "foldLifts", inPlace := ["math.Float64frombits", "math.Float64bits", "math.archTrunc"], unfollowed := true, recurses := true, loops := true, apart := false, narrowed := true }
def FoldLiftsUptoSaid : Prop := foldLiftsUptoRow.holds Try.pinned (OpenSpec.upto foldLiftsSpec)

/-- 'foundrylaw09.FoldExtra', WHERE WHAT IT READS IS OF BULK AT MOST 1048576: true; the input reads as it did. -/
def foldExtraUptoRow : OpenClaim := { program := "ytndanoiaheknaaa", sum := "76822e3a566ac23fda4f5606fae331a0c761b7c6a12313297c50cb42b814d20e", func := "foundry/foundrylaw09.FoldExtra", spec := "foldExtra", inPlace := ["math.Float64frombits", "math.archTrunc", "math.Float64bits"], unfollowed := true, recurses := true, loops := true, apart := false, narrowed := true }
def FoldExtraUptoSaid : Prop := foldExtraUptoRow.holds Try.pinned (OpenSpec.upto foldExtraSpec)

/-- 'foundrylaw09.FoldFars', WHERE WHAT IT READS IS OF BULK AT MOST 1048576: true; the input reads as it did. -/
def foldFarsUptoRow : OpenClaim := { program := "ytndanoiaheknaaa", sum := "76822e3a566ac23fda4f5606fae331a0c761b7c6a12313297c50cb42b814d20e", func := "foundry/foundrylaw09.FoldFars", spec := "foldFars", inPlace := ["math.Float64frombits", "math.Float64bits", "math.archTrunc"], unfollowed := true, recurses := true, apart := false, narrowed := true }
def FoldFarsUptoSaid : Prop := foldFarsUptoRow.holds Try.pinned (OpenSpec.upto foldFarsSpec)

end Rows
end Go.Proofs.Ytndanoiaheknaaa
