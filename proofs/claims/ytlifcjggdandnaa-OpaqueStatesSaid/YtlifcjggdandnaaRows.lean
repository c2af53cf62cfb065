/-
  No cell of these rows narrows 'for every input' (looked for: loops, veiled, ifaces, maps, wideKeys, modest, calm, conditions, laid).
  DERIVED. THE GIVEN ROWS OF THIS SEAT. 3 by the template 'for every input the law returns true; each argument reads behind the call as it read before'; 0 by the template 'total and deterministic' (their statements: YtlifcjggdandnaaTotals.lean).
  GIVEN WITH THE SEED: the statements are not yours to turn. If you find one false, say at which input.
  Laid BY PROGRAM, IN A SANDBOX (cutbox-rows.mjs): the forced cells as the released guide's own fill.sh prints them over the translation 96e7df77f7ae021b… (all of the seat's roots in one cut). By AI agents, Wed Nov 11 2026. No macro, syntax, notation, axiom, sorry.
-/
import Derived.Test.YtlifcjggdandnaaChecked
import GoSem.Claim
import GoSem.ClaimJoined
import GoSem.ClaimMapViews
import Derived.JoinedTies
import Derived.KernelRfl
namespace Go.Proofs.Ytlifcjggdandnaa
/- THE CELL 'sum', in the pinned program and in every row, IS THE sha256 OF THE DUMP (.gsa) THAT YtlifcjggdandnaaProg.lean LOADS. Nothing in Lean hashes anything: it is a label: what it is worth is what the hold of that sum in a sandbox is worth. -/
noncomputable def Try.pinned : Pinned := { name := "ytlifcjggdandnaa", sum := "96e7df77f7ae021bbb4fa6786fd845df2161d1963badf2cf4a556f6e2ba18044", checked := Try.checked }
namespace Rows
def none {H : Type} : Left H := { results := [], args := [] }

/-- 'assartlaw34.OpaqueChecks': WHATEVER THE INPUT: true; the input reads as it did. -/
def opaqueChecksSpec : ChangeSpec := { name := "opaqueChecks", fn := fun _ => fun
  | [d1, d2] => { results := [.lit (.bool true)], args := [d1, d2] }
  | _ => none }
def opaqueChecksRow : OpenClaim := { program := "ytlifcjggdandnaa", sum := "96e7df77f7ae021bbb4fa6786fd845df2161d1963badf2cf4a556f6e2ba18044", func := "assart/assartlaw34.OpaqueChecks", spec := "opaqueChecks", unfollowed := true, recurses := true, apart := false }
def OpaqueChecksSaid : Prop := opaqueChecksRow.holds Try.pinned (OpenSpec.ofChange opaqueChecksSpec)

/-- ITS FALSE NEIGHBOUR: 'it returns false'. Refute it at one input. -/
def opaqueChecksWrong : ChangeSpec := { name := "opaqueChecks", fn := fun _ => fun
  | [d1, d2] => { results := [.lit (.bool false)], args := [d1, d2] }
  | _ => none }
def OpaqueChecksWrongFalsely : Prop := opaqueChecksRow.holds Try.pinned (OpenSpec.ofChange opaqueChecksWrong)

/-- 'assartlaw34.OpaqueStates': WHATEVER THE INPUT: true; the input reads as it did. -/
def opaqueStatesSpec : ChangeSpec := { name := "opaqueStates", fn := fun _ => fun
  | [d1, d2, d3] => { results := [.lit (.bool true)], args := [d1, d2, d3] }
  | _ => none }
def opaqueStatesRow : OpenClaim := { program := "ytlifcjggdandnaa", sum := "96e7df77f7ae021bbb4fa6786fd845df2161d1963badf2cf4a556f6e2ba18044", func := "assart/assartlaw34.OpaqueStates", spec := "opaqueStates", unfollowed := true, recurses := true, apart := false }
def OpaqueStatesSaid : Prop := opaqueStatesRow.holds Try.pinned (OpenSpec.ofChange opaqueStatesSpec)

/-- ITS FALSE NEIGHBOUR: 'it returns false'. Refute it at one input. -/
def opaqueStatesWrong : ChangeSpec := { name := "opaqueStates", fn := fun _ => fun
  | [d1, d2, d3] => { results := [.lit (.bool false)], args := [d1, d2, d3] }
  | _ => none }
def OpaqueStatesWrongFalsely : Prop := opaqueStatesRow.holds Try.pinned (OpenSpec.ofChange opaqueStatesWrong)

/-- 'assartlaw40.ReportLines': WHATEVER THE INPUT: true; the input reads as it did. -/
def reportLinesSpec : ChangeSpec := { name := "reportLines", fn := fun _ => fun
  | [d1, d2, d3] => { results := [.lit (.bool true)], args := [d1, d2, d3] }
  | _ => none }
def reportLinesRow : OpenClaim := { program := "ytlifcjggdandnaa", sum := "96e7df77f7ae021bbb4fa6786fd845df2161d1963badf2cf4a556f6e2ba18044", func := "assart/assartlaw40.ReportLines", spec := "reportLines", inPlace := ["internal/abi.NoEscape", "internal/bytealg.MakeNoZero"], apart := false }
def ReportLinesSaid : Prop := reportLinesRow.holds Try.pinned (OpenSpec.ofChange reportLinesSpec)

/-- ITS FALSE NEIGHBOUR: 'it returns false'. Refute it at one input. -/
def reportLinesWrong : ChangeSpec := { name := "reportLines", fn := fun _ => fun
  | [d1, d2, d3] => { results := [.lit (.bool false)], args := [d1, d2, d3] }
  | _ => none }
def ReportLinesWrongFalsely : Prop := reportLinesRow.holds Try.pinned (OpenSpec.ofChange reportLinesWrong)

/- THE SECOND FORM. 'bulk': how many values and letters a reading holds, each counted each time it is reached (what is shared counts as often as it is met; a slice's spare places count too). A statement '..UptoSaid' is the law's where the arguments, and the package variables that the reading takes, are together of bulk at most 1048576: NARROWER than '..Said'. Prove '..Said' where nothing that the law and all that it calls make is longer than what came in: it says more and counts as full. Else prove '..UptoSaid'. A law counts once. -/
mutual
def uptoBulk {H : Type} : DataW H → Nat
  | .lit (.string bytes) => bytes.length + 1
  | .lit _ => 1
  | .nil => 1
  | .ptr d => uptoBulk d + 1
  | .slice elems spare => uptoBulkAll elems + uptoBulkAll spare + 1
  | .agg parts => uptoBulkAll parts + 1
  | .iface _ d => uptoBulk d + 1
  | .map entries => uptoBulkEntries entries + 1
  | .held _ => 1
def uptoBulkAll {H : Type} : List (DataW H) → Nat
  | [] => 0
  | d :: r => uptoBulk d + uptoBulkAll r
def uptoBulkEntries {H : Type} : List (Lit × DataW H) → Nat
  | [] => 0
  | x :: r => uptoBulkEntry x + uptoBulkEntries r
def uptoBulkEntry {H : Type} : Lit × DataW H → Nat
  | (.string bytes, d) => bytes.length + uptoBulk d + 1
  | (_, d) => uptoBulk d + 1
 end
def uptoSmall : (H : Type) → List (DataW H) → Bool := fun _ ds => decide (uptoBulkAll ds ≤ 1048576)
def OpenSpec.upto (s : _root_.Go.ChangeSpec) : _root_.Go.OpenSpec := { _root_.Go.OpenSpec.ofChange s with cond := some uptoSmall }

/-- 'assartlaw34.OpaqueChecks', WHERE WHAT IT READS IS OF BULK AT MOST 1048576: true; the input reads as it did. -/
def opaqueChecksUptoRow : OpenClaim := { program := "ytlifcjggdandnaa", sum := "96e7df77f7ae021bbb4fa6786fd845df2161d1963badf2cf4a556f6e2ba18044", func := "assart/assartlaw34.OpaqueChecks", spec := "opaqueChecks", unfollowed := true, recurses := true, apart := false, narrowed := true }
def OpaqueChecksUptoSaid : Prop := opaqueChecksUptoRow.holds Try.pinned (OpenSpec.upto opaqueChecksSpec)

/-- 'assartlaw34.OpaqueStates', WHERE WHAT IT READS IS OF BULK AT MOST 1048576: true; the input reads as it did. -/
def opaqueStatesUptoRow : OpenClaim := { program := "ytlifcjggdandnaa", sum := "96e7df77f7ae021bbb4fa6786fd845df2161d1963badf2cf4a556f6e2ba18044", func := "assart/assartlaw34.OpaqueStates", spec := "opaqueStates", unfollowed := true, recurses := true, apart := false, narrowed := true }
def OpaqueStatesUptoSaid : Prop := opaqueStatesUptoRow.holds Try.pinned (OpenSpec.upto opaqueStatesSpec)

/-- 'assartlaw40.ReportLines', WHERE WHAT IT READS IS OF BULK AT MOST 1048576: true; the input reads as it did. -/
def reportLinesUptoRow : OpenClaim := { program := "ytlifcjggdandnaa", sum := "96e7df77f7ae021bbb4fa6786fd845df2161d1963badf2cf4a556f6e2ba18044", func := "assart/assartlaw40.ReportLines", spec := "reportLines", inPlace := ["internal/abi.NoEscape", "internal/bytealg.MakeNoZero"], apart := false, narrowed := true }
def ReportLinesUptoSaid : Prop := reportLinesUptoRow.holds Try.pinned (OpenSpec.upto reportLinesSpec)

end Rows
end Go.Proofs.Ytlifcjggdandnaa
