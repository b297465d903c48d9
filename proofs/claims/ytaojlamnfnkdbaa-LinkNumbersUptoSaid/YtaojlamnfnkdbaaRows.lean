/-
  No cell of these rows narrows 'for every input' (looked for: loops, veiled, ifaces, maps, wideKeys, modest, calm, conditions, laid).
  DERIVED. THE GIVEN ROWS OF THIS SEAT. 5 by the template 'for every input the law returns true; each argument reads behind the call as it read before'; 0 by the template 'total and deterministic' (their statements: YtaojlamnfnkdbaaTotals.lean).
  GIVEN WITH THE SEED: the statements are not yours to turn. If you find one false, say at which input.
  Laid BY PROGRAM, IN A SANDBOX (cutbox-rows.mjs): the forced cells as the released guide's own fill.sh prints them over the translation 0f259e21499ad9bf… (all of the seat's roots in one cut). By AI agents, Wed Nov 11 2026. No macro, syntax, notation, axiom, sorry.
-/
import Derived.Test.YtaojlamnfnkdbaaChecked
import GoSem.Claim
import GoSem.ClaimJoined
import GoSem.ClaimMapViews
import Derived.JoinedTies
import Derived.KernelRfl
namespace Go.Proofs.Ytaojlamnfnkdbaa
/- THE CELL 'sum', in the pinned program and in every row, IS THE sha256 OF THE DUMP (.gsa) THAT YtaojlamnfnkdbaaProg.lean LOADS. Nothing in Lean hashes anything: it is a label: what it is worth is what the hold of that sum in a sandbox is worth. -/
noncomputable def Try.pinned : Pinned := { name := "ytaojlamnfnkdbaa", sum := "0f259e21499ad9bf46cf1af8108a1bff6bc2fbc77a051f6913fa722d9650294c", checked := Try.checked }
namespace Rows
def none {H : Type} : Left H := { results := [], args := [] }

/-- 'foundrylaw18.LinkSymbols': WHATEVER THE INPUT: true; the input reads as it did. -/
def linkSymbolsSpec : ChangeSpec := { name := "linkSymbols", fn := fun _ => fun
  | [d] => { results := [.lit (.bool true)], args := [d] }
  | _ => none }
def linkSymbolsRow : OpenClaim := { program := "ytaojlamnfnkdbaa", sum := "0f259e21499ad9bf46cf1af8108a1bff6bc2fbc77a051f6913fa722d9650294c", func := "foundry/foundrylaw18.LinkSymbols", spec := "linkSymbols", unfollowed := true, recurses := true, plainKeys := false, apart := false }
def LinkSymbolsSaid : Prop := linkSymbolsRow.holds Try.pinned (OpenSpec.ofChange linkSymbolsSpec)

/-- ITS FALSE NEIGHBOUR: 'it returns false'. Refute it at one input. -/
def linkSymbolsWrong : ChangeSpec := { name := "linkSymbols", fn := fun _ => fun
  | [d] => { results := [.lit (.bool false)], args := [d] }
  | _ => none }
def LinkSymbolsWrongFalsely : Prop := linkSymbolsRow.holds Try.pinned (OpenSpec.ofChange linkSymbolsWrong)

/-- 'foundrylaw18.LinkNumbers': WHATEVER THE INPUT: true; the input reads as it did. -/
def linkNumbersSpec : ChangeSpec := { name := "linkNumbers", fn := fun _ => fun
  | [d] => { results := [.lit (.bool true)], args := [d] }
  | _ => none }
def linkNumbersRow : OpenClaim := { program := "ytaojlamnfnkdbaa", sum := "0f259e21499ad9bf46cf1af8108a1bff6bc2fbc77a051f6913fa722d9650294c", func := "foundry/foundrylaw18.LinkNumbers", spec := "linkNumbers", unfollowed := true, recurses := true, plainKeys := false, apart := false }
def LinkNumbersSaid : Prop := linkNumbersRow.holds Try.pinned (OpenSpec.ofChange linkNumbersSpec)

/-- ITS FALSE NEIGHBOUR: 'it returns false'. Refute it at one input. -/
def linkNumbersWrong : ChangeSpec := { name := "linkNumbers", fn := fun _ => fun
  | [d] => { results := [.lit (.bool false)], args := [d] }
  | _ => none }
def LinkNumbersWrongFalsely : Prop := linkNumbersRow.holds Try.pinned (OpenSpec.ofChange linkNumbersWrong)

/-- 'foundrylaw18.LinkOrder': WHATEVER THE INPUT: true; the input reads as it did. -/
def linkOrderSpec : ChangeSpec := { name := "linkOrder", fn := fun _ => fun
  | [d1, d2, d3] => { results := [.lit (.bool true)], args := [d1, d2, d3] }
  | _ => none }
def linkOrderRow : OpenClaim := { program := "ytaojlamnfnkdbaa", sum := "0f259e21499ad9bf46cf1af8108a1bff6bc2fbc77a051f6913fa722d9650294c", func := "foundry/foundrylaw18.LinkOrder", spec := "linkOrder", unfollowed := true, recurses := true, plainKeys := false, apart := false }
def LinkOrderSaid : Prop := linkOrderRow.holds Try.pinned (OpenSpec.ofChange linkOrderSpec)

/-- ITS FALSE NEIGHBOUR: 'it returns false'. Refute it at one input. -/
def linkOrderWrong : ChangeSpec := { name := "linkOrder", fn := fun _ => fun
  | [d1, d2, d3] => { results := [.lit (.bool false)], args := [d1, d2, d3] }
  | _ => none }
def LinkOrderWrongFalsely : Prop := linkOrderRow.holds Try.pinned (OpenSpec.ofChange linkOrderWrong)

/-- 'foundrylaw18.LinkOthers': WHATEVER THE INPUT: true; the input reads as it did. -/
def linkOthersSpec : ChangeSpec := { name := "linkOthers", fn := fun _ => fun
  | [d] => { results := [.lit (.bool true)], args := [d] }
  | _ => none }
def linkOthersRow : OpenClaim := { program := "ytaojlamnfnkdbaa", sum := "0f259e21499ad9bf46cf1af8108a1bff6bc2fbc77a051f6913fa722d9650294c", func := "foundry/foundrylaw18.LinkOthers", spec := "linkOthers", unfollowed := true, recurses := true, plainKeys := false, apart := false }
def LinkOthersSaid : Prop := linkOthersRow.holds Try.pinned (OpenSpec.ofChange linkOthersSpec)

/-- ITS FALSE NEIGHBOUR: 'it returns false'. Refute it at one input. -/
def linkOthersWrong : ChangeSpec := { name := "linkOthers", fn := fun _ => fun
  | [d] => { results := [.lit (.bool false)], args := [d] }
  | _ => none }
def LinkOthersWrongFalsely : Prop := linkOthersRow.holds Try.pinned (OpenSpec.ofChange linkOthersWrong)

/-- 'foundrylaw18.LinkClosed': WHATEVER THE INPUT: true; the input reads as it did. -/
def linkClosedSpec : ChangeSpec := { name := "linkClosed", fn := fun _ => fun
  | [d] => { results := [.lit (.bool true)], args := [d] }
  | _ => none }
def linkClosedRow : OpenClaim := { program := "ytaojlamnfnkdbaa", sum := "0f259e21499ad9bf46cf1af8108a1bff6bc2fbc77a051f6913fa722d9650294c", func := "foundry/foundrylaw18.LinkClosed", spec := "linkClosed", unfollowed := true, recurses := true, plainKeys := false, apart := false }
def LinkClosedSaid : Prop := linkClosedRow.holds Try.pinned (OpenSpec.ofChange linkClosedSpec)

/-- ITS FALSE NEIGHBOUR: 'it returns false'. Refute it at one input. -/
def linkClosedWrong : ChangeSpec := { name := "linkClosed", fn := fun _ => fun
  | [d] => { results := [.lit (.bool false)], args := [d] }
  | _ => none }
def LinkClosedWrongFalsely : Prop := linkClosedRow.holds Try.pinned (OpenSpec.ofChange linkClosedWrong)

/- THE SECOND FORM. 'bulk': how many values and letters a reading holds, each counted each time it is reached (what is shared counts as often as it is met; a slice's spare places count too). A statement '..UptoSaid' is the law's where the arguments, and the package variables that the reading takes, are together of bulk at most 1048576: NARROWER than '..Said'. Prove '..Said' where nothing that the law and all that it calls make is longer than what came in: it says more and counts as full. Else prove '..UptoSaid'. A law counts once. -/
mutual
def uptoBulk {H : Type} : DataW H → Nat
  | .lit (.string bytes) => bytes.length + 1
  | .lit _ => 1
  | .nil => 1
  | .ptr d => uptoBulk d + 1
  | .slice elems spare => uptoBulkAll elems + uptoBulkAll spare + 1
  | .agg parts => uptoBulkAll parts + 1
  | .iface _ d => uptoBulk d + 1
  | .map entries => uptoBulkEntries entries + 1
  | .held _ => 1
def uptoBulkAll {H : Type} : List (DataW H) → Nat
  | [] => 0
  | d :: r => uptoBulk d + uptoBulkAll r
def uptoBulkEntries {H : Type} : List (Lit × DataW H) → Nat
  | [] => 0
  | x :: r => uptoBulkEntry x + uptoBulkEntries r
def uptoBulkEntry {H : Type} : Lit × DataW H → Nat
  | (.string bytes, d) => bytes.length + uptoBulk d + 1
  | (_, d) => uptoBulk d + 1
 end
def uptoSmall : (H : Type) → List (DataW H) → Bool := fun _ ds => decide (uptoBulkAll ds ≤ 1048576)
def OpenSpec.upto (s : _root_.Go.ChangeSpec) : _root_.Go.OpenSpec := { _root_.Go.OpenSpec.ofChange s with cond := some uptoSmall }

/-- 'foundrylaw18.LinkSymbols', WHERE WHAT IT READS IS OF BULK AT MOST 1048576: true; the input reads as it did. -/
def linkSymbolsUptoRow : OpenClaim := { program := "ytaojlamnfnkdbaa", sum := "0f259e21499ad9bf46cf1af8108a1bff6bc2fbc77a051f6913fa722d9650294c", func := "foundry/foundrylaw18.LinkSymbols", spec := "linkSymbols", unfollowed := true, recurses := true, plainKeys := false, apart := false, narrowed := true }
def LinkSymbolsUptoSaid : Prop := linkSymbolsUptoRow.holds Try.pinned (OpenSpec.upto linkSymbolsSpec)

/-- 'foundrylaw18.LinkNumbers', WHERE WHAT IT READS IS OF BULK AT MOST 1048576: true; the input reads as it did. -/
def linkNumbersUptoRow : OpenClaim := { program := "ytaojlamnfnkdbaa", sum := "0f259e21499ad9bf46cf1af8108a1bff6bc2fbc77a051f6913fa722d9650294c", func := "foundry/foundrylaw18.LinkNumbers", spec := "linkNumbers", unfollowed := true, recurses := true, plainKeys := false, apart := false, narrowed := true }
def LinkNumbersUptoSaid : Prop := linkNumbersUptoRow.holds Try.pinned (OpenSpec.upto linkNumbersSpec)

/-- 'foundrylaw18.LinkOrder', WHERE WHAT IT READS IS OF BULK AT MOST 1048576: true; the input reads as it did. -/
def linkOrderUptoRow : OpenClaim := { program := "ytaojlamnfnkdbaa", sum := "0f259e21499ad9bf46cf1af8108a1bff6bc2fbc77a051f6913fa722d9650294c", func := "foundry/foundrylaw18.LinkOrder", spec := "linkOrder", unfollowed := true, recurses := true, plainKeys := false, apart := false, narrowed := true }
def LinkOrderUptoSaid : Prop := linkOrderUptoRow.holds Try.pinned (OpenSpec.upto linkOrderSpec)

/-- 'foundrylaw18.LinkOthers', WHERE WHAT IT READS IS OF BULK AT MOST 1048576: true; the input reads as it did. -/
def linkOthersUptoRow : OpenClaim := { program := "ytaojlamnfnkdbaa", sum := "0f259e21499ad9bf46cf1af8108a1bff6bc2fbc77a051f6913fa722d9650294c", func := "foundry/foundrylaw18.LinkOthers", spec := "linkOthers", unfollowed := true, recurses := true, plainKeys := false, apart := false, narrowed := true }
def LinkOthersUptoSaid : Prop := linkOthersUptoRow.holds Try.pinned (OpenSpec.upto linkOthersSpec)

/-- 'foundrylaw18.LinkClosed', WHERE WHAT IT READS IS OF BULK AT MOST 1048576: true; the input reads as it did. -/
def linkClosedUptoRow : OpenClaim := { program := "ytaojlamnfnkdbaa", sum := "0f259e21499ad9bf46cf1af8108a1bff6bc2fbc77a051f6913fa722d9650294c", func := "foundry/foundrylaw18.LinkClosed", spec := "linkClosed", unfollowed := true, recurses := true, plainKeys := false, apart := false, narrowed := true }
def LinkClosedUptoSaid : Prop := linkClosedUptoRow.holds Try.pinned (OpenSpec.upto linkClosedSpec)

end Rows
end Go.Proofs.Ytaojlamnfnkdbaa
