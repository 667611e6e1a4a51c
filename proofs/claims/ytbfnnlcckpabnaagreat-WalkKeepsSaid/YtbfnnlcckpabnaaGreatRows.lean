/-
  No cell of these rows narrows 'for every input' (looked for: loops, veiled, ifaces, maps, wideKeys, modest, calm, conditions, laid).
  DERIVED. THE GIVEN ROWS OF THIS SEAT. 3 by the template 'for every input the law returns true; each argument reads behind the call as it read before'; 0 by the template 'total and deterministic' (their statements: YtbfnnlcckpabnaaGreatTotals.lean).
  GIVEN WITH THE SEED: the statements are not yours to turn. If you find one false, say at which input.
  Laid BY PROGRAM, IN A SANDBOX (cutbox-rows.mjs): the forced cells as the released guide's own fill.sh prints them over the translation 2f86ef8b7eeaf61a… (all of the seat's roots in one cut). By AI agents, Wed Nov 11 2026. No macro, syntax, notation, axiom, sorry.
-/
import Derived.Test.YtbfnnlcckpabnaaGreatChecked
import GoSem.Claim
import GoSem.ClaimJoined
import GoSem.ClaimMapViews
import Derived.JoinedTies
import Derived.KernelRfl
namespace Go.Proofs.YtbfnnlcckpabnaaGreat
/- THE CELL 'sum', in the pinned program and in every row, IS THE sha256 OF THE DUMP (.gsa) THAT YtbfnnlcckpabnaaGreatProg.lean LOADS. Nothing in Lean hashes anything: it is a label: what it is worth is what the hold of that sum in a sandbox is worth. -/
noncomputable def Tryz.pinned : Pinned := { name := "ytbfnnlcckpabnaagreat", sum := "2f86ef8b7eeaf61a67901c07a8cb475246ec15e7bb662b6dfcd9cf014fdc39dc", checked := Tryz.checked }
namespace Rows
def none {H : Type} : Left H := { results := [], args := [] }

/-- 'horocyclelaw07.WalkRuns': WHATEVER THE INPUT: true; the input reads as it did. -/
def walkRunsSpec : ChangeSpec := { name := "walkRuns", fn := fun _ => fun
  | [d1, d2, d3, d4] => { results := [.lit (.bool true)], args := [d1, d2, d3, d4] }
  | _ => none }
def walkRunsRow : OpenClaim := { program := "ytbfnnlcckpabnaagreat", sum := "2f86ef8b7eeaf61a67901c07a8cb475246ec15e7bb662b6dfcd9cf014fdc39dc", func := "horocycle/horocyclelaw07.WalkRuns", spec := "walkRuns", inPlace := ["internal/bytealg.abigen_runtime_cmpstring"], unfollowed := true, recurses := true, plainKeys := false, apart := false }
def WalkRunsSaid : Prop := walkRunsRow.holds Tryz.pinned (OpenSpec.ofChange walkRunsSpec)

/-- ITS FALSE NEIGHBOUR: 'it returns false'. Refute it at one input. -/
def walkRunsWrong : ChangeSpec := { name := "walkRuns", fn := fun _ => fun
  | [d1, d2, d3, d4] => { results := [.lit (.bool false)], args := [d1, d2, d3, d4] }
  | _ => none }
def WalkRunsWrongFalsely : Prop := walkRunsRow.holds Tryz.pinned (OpenSpec.ofChange walkRunsWrong)

/-- 'horocyclelaw07.WalkLoads': WHATEVER THE INPUT: true; the input reads as it did. -/
def walkLoadsSpec : ChangeSpec := { name := "walkLoads", fn := fun _ => fun
  | [d1, d2, d3] => { results := [.lit (.bool true)], args := [d1, d2, d3] }
  | _ => none }
def walkLoadsRow : OpenClaim := { program := "ytbfnnlcckpabnaagreat", sum := "2f86ef8b7eeaf61a67901c07a8cb475246ec15e7bb662b6dfcd9cf014fdc39dc", func := "horocycle/horocyclelaw07.WalkLoads", spec := "walkLoads", inPlace := ["internal/bytealg.abigen_runtime_cmpstring"], unfollowed := true, recurses := true, plainKeys := false, apart := false }
def WalkLoadsSaid : Prop := walkLoadsRow.holds Tryz.pinned (OpenSpec.ofChange walkLoadsSpec)

/-- ITS FALSE NEIGHBOUR: 'it returns false'. Refute it at one input. -/
def walkLoadsWrong : ChangeSpec := { name := "walkLoads", fn := fun _ => fun
  | [d1, d2, d3] => { results := [.lit (.bool false)], args := [d1, d2, d3] }
  | _ => none }
def WalkLoadsWrongFalsely : Prop := walkLoadsRow.holds Tryz.pinned (OpenSpec.ofChange walkLoadsWrong)

/-- 'horocyclelaw07.WalkKeeps': WHATEVER THE INPUT: true; the input reads as it did. -/
def walkKeepsSpec : ChangeSpec := { name := "walkKeeps", fn := fun _ => fun
  | [d1, d2, d3] => { results := [.lit (.bool true)], args := [d1, d2, d3] }
  | _ => none }
def walkKeepsRow : OpenClaim := { program := "ytbfnnlcckpabnaagreat", sum := "2f86ef8b7eeaf61a67901c07a8cb475246ec15e7bb662b6dfcd9cf014fdc39dc", func := "horocycle/horocyclelaw07.WalkKeeps", spec := "walkKeeps", inPlace := ["internal/bytealg.abigen_runtime_cmpstring"], unfollowed := true, recurses := true, plainKeys := false, apart := false }
def WalkKeepsSaid : Prop := walkKeepsRow.holds Tryz.pinned (OpenSpec.ofChange walkKeepsSpec)

/-- ITS FALSE NEIGHBOUR: 'it returns false'. Refute it at one input. -/
def walkKeepsWrong : ChangeSpec := { name := "walkKeeps", fn := fun _ => fun
  | [d1, d2, d3] => { results := [.lit (.bool false)], args := [d1, d2, d3] }
  | _ => none }
def WalkKeepsWrongFalsely : Prop := walkKeepsRow.holds Tryz.pinned (OpenSpec.ofChange walkKeepsWrong)

/- THE SECOND FORM. 'bulk': how many values and letters a reading holds, each counted each time it is reached (what is shared counts as often as it is met; a slice's spare places count too). A statement '..UptoSaid' is the law's where the arguments, and the package variables that the reading takes, are together of bulk at most 1048576: NARROWER than '..Said'. Prove '..Said' where nothing that the law and all that it calls make is longer than what came in: it says more and counts as full. Else prove '..UptoSaid'. A law counts once. -/
mutual
def uptoBulk {H : Type} : DataW H → Nat
  | .lit (.string bytes) => bytes.length + 1
  | .lit _ => 1
  | .nil => 1
  | .ptr d => uptoBulk d + 1
  | .slice elems spare => uptoBulkAll elems + uptoBulkAll spare + 1
  | .agg parts => uptoBulkAll parts + 1
  | .iface _ d => uptoBulk d + 1
  | .map entries => uptoBulkEntries entries + 1
  | .held _ => 1
def uptoBulkAll {H : Type} : List (DataW H) → Nat
  | [] => 0
  | d :: r => uptoBulk d + uptoBulkAll r
def uptoBulkEntries {H : Type} : List (Lit × DataW H) → Nat
  | [] => 0
  | x :: r => uptoBulkEntry x + uptoBulkEntries r
def uptoBulkEntry {H : Type} : Lit × DataW H → Nat
  | (.string bytes, d) => bytes.length + uptoBulk d + 1
  | (_, d) => uptoBulk d + 1
 end
def uptoSmall : (H : Type) → List (DataW H) → Bool := fun _ ds => decide (uptoBulkAll ds ≤ 1048576)
def OpenSpec.upto (s : _root_.Go.ChangeSpec) : _root_.Go.OpenSpec := { _root_.Go.OpenSpec.ofChange s with cond := some uptoSmall }

/-- 'horocyclelaw07.WalkRuns', WHERE WHAT IT READS IS OF BULK AT MOST 1048576: true; the input reads as it did. -/
def walkRunsUptoRow : OpenClaim := { program := "ytbfnnlcckpabnaagreat", sum := "2f86ef8b7eeaf61a67901c07a8cb475246ec15e7bb662b6dfcd9cf014fdc39dc", func := "horocycle/horocyclelaw07.WalkRuns", spec := "walkRuns", inPlace := ["internal/bytealg.abigen_runtime_cmpstring"], unfollowed := true, recurses := true, plainKeys := false, apart := false, narrowed := true }
def WalkRunsUptoSaid : Prop := walkRunsUptoRow.holds Tryz.pinned (OpenSpec.upto walkRunsSpec)

/-- 'horocyclelaw07.WalkLoads', WHERE WHAT IT READS IS OF BULK AT MOST 1048576: true; the input reads as it did. -/
def walkLoadsUptoRow : OpenClaim := { program := "ytbfnnlcckpabnaagreat", sum := "2f86ef8b7eeaf61a67901c07a8cb475246ec15e7bb662b6dfcd9cf014fdc39dc", func := "horocycle/horocyclelaw07.WalkLoads", spec := "walkLoads", inPlace := ["internal/bytealg.abigen_runtime_cmpstring"], unfollowed := true, recurses := true, plainKeys := false, apart := false, narrowed := true }
def WalkLoadsUptoSaid : Prop := walkLoadsUptoRow.holds Tryz.pinned (OpenSpec.upto walkLoadsSpec)

/-- 'horocyclelaw07.WalkKeeps', WHERE WHAT IT READS IS OF BULK AT MOST 1048576: true; the input reads as it did. -/
def walkKeepsUptoRow : OpenClaim := { program := "ytbfnnlcckpabnaagreat", sum := "2f86ef8b7eeaf61a67901c07a8cb475246ec15e7bb662b6dfcd9cf014fdc39dc", func := "horocycle/horocyclelaw07.WalkKeeps", spec := "walkKeeps", inPlace := ["internal/bytealg.abigen_runtime_cmpstring"], unfollowed := true, recurses := true, plainKeys := false, apart := false, narrowed := true }
def WalkKeepsUptoSaid : Prop := walkKeepsUptoRow.holds Tryz.pinned (OpenSpec.upto walkKeepsSpec)

end Rows
end Go.Proofs.YtbfnnlcckpabnaaGreat
