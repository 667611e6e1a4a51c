/-
  No cell of these rows narrows 'for every input' (looked for: loops, veiled, ifaces, maps, wideKeys, modest, calm, conditions, laid).
  DERIVED. THE GIVEN ROWS OF THIS SEAT. 3 by the template 'for every input the law returns true; each argument reads behind the call as it read before'; 0 by the template 'total and deterministic' (their statements: YtbfnnlcckpabnaaTotals.lean).
  GIVEN WITH THE SEED: the statements are not yours to turn. If you find one false, say at which input.
  Laid BY PROGRAM, IN A SANDBOX (cutbox-rows.mjs): the forced cells as the released guide's own fill.sh prints them over the translation b9dd5c09dbb5a6a6… (all of the seat's roots in one cut). By AI agents, Wed Nov 11 2026. No macro, syntax, notation, axiom, sorry.
-/
import Derived.Test.YtbfnnlcckpabnaaChecked
import GoSem.Claim
import GoSem.ClaimJoined
import GoSem.ClaimMapViews
import Derived.JoinedTies
import Derived.KernelRfl
namespace Go.Proofs.Ytbfnnlcckpabnaa
/- THE CELL 'sum', in the pinned program and in every row, IS THE sha256 OF THE DUMP (.gsa) THAT YtbfnnlcckpabnaaProg.lean LOADS. Nothing in Lean hashes anything: it is a label: what it is worth is what the hold of that sum in a sandbox is worth. -/
noncomputable def Try.pinned : Pinned := { name := "ytbfnnlcckpabnaa", sum := "b9dd5c09dbb5a6a619bab168aefed7095fa8442463aa72435916817003f2c325", checked := Try.checked }
namespace Rows
def none {H : Type} : Left H := { results := [], args := [] }

/-- 'horocyclelaw07.WalkFree': WHATEVER THE INPUT: true; the input reads as it did. -/
def walkFreeSpec : ChangeSpec := { name := "walkFree", fn := fun _ => fun
  | [d1, d2, d3] => { results := [.lit (.bool true)], args := [d1, d2, d3] }
  | _ => none }
def walkFreeRow : OpenClaim := { program := "ytbfnnlcckpabnaa", sum := "b9dd5c09dbb5a6a619bab168aefed7095fa8442463aa72435916817003f2c325", func := "horocycle/horocyclelaw07.WalkFree", spec := "walkFree", inPlace := ["internal/bytealg.abigen_runtime_cmpstring"], unfollowed := true, recurses := true, plainKeys := false, apart := false }
def WalkFreeSaid : Prop := walkFreeRow.holds Try.pinned (OpenSpec.ofChange walkFreeSpec)

/-- ITS FALSE NEIGHBOUR: 'it returns false'. Refute it at one input. -/
def walkFreeWrong : ChangeSpec := { name := "walkFree", fn := fun _ => fun
  | [d1, d2, d3] => { results := [.lit (.bool false)], args := [d1, d2, d3] }
  | _ => none }
def WalkFreeWrongFalsely : Prop := walkFreeRow.holds Try.pinned (OpenSpec.ofChange walkFreeWrong)

/-- 'horocyclelaw07.WalkShortest': WHATEVER THE INPUT: true; the input reads as it did. -/
def walkShortestSpec : ChangeSpec := { name := "walkShortest", fn := fun _ => fun
  | [d1, d2, d3, d4] => { results := [.lit (.bool true)], args := [d1, d2, d3, d4] }
  | _ => none }
def walkShortestRow : OpenClaim := { program := "ytbfnnlcckpabnaa", sum := "b9dd5c09dbb5a6a619bab168aefed7095fa8442463aa72435916817003f2c325", func := "horocycle/horocyclelaw07.WalkShortest", spec := "walkShortest", inPlace := ["internal/bytealg.abigen_runtime_cmpstring"], unfollowed := true, recurses := true, plainKeys := false, apart := false }
def WalkShortestSaid : Prop := walkShortestRow.holds Try.pinned (OpenSpec.ofChange walkShortestSpec)

/-- ITS FALSE NEIGHBOUR: 'it returns false'. Refute it at one input. -/
def walkShortestWrong : ChangeSpec := { name := "walkShortest", fn := fun _ => fun
  | [d1, d2, d3, d4] => { results := [.lit (.bool false)], args := [d1, d2, d3, d4] }
  | _ => none }
def WalkShortestWrongFalsely : Prop := walkShortestRow.holds Try.pinned (OpenSpec.ofChange walkShortestWrong)

/-- 'horocyclelaw07.WalkNone': WHATEVER THE INPUT: true; the input reads as it did. -/
def walkNoneSpec : ChangeSpec := { name := "walkNone", fn := fun _ => fun
  | [d1, d2, d3, d4] => { results := [.lit (.bool true)], args := [d1, d2, d3, d4] }
  | _ => none }
def walkNoneRow : OpenClaim := { program := "ytbfnnlcckpabnaa", sum := "b9dd5c09dbb5a6a619bab168aefed7095fa8442463aa72435916817003f2c325", func := "horocycle/horocyclelaw07.WalkNone", spec := "walkNone", inPlace := ["internal/bytealg.abigen_runtime_cmpstring"], unfollowed := true, recurses := true, plainKeys := false, apart := false }
def WalkNoneSaid : Prop := walkNoneRow.holds Try.pinned (OpenSpec.ofChange walkNoneSpec)

/-- ITS FALSE NEIGHBOUR: 'it returns false'. Refute it at one input. -/
def walkNoneWrong : ChangeSpec := { name := "walkNone", fn := fun _ => fun
  | [d1, d2, d3, d4] => { results := [.lit (.bool false)], args := [d1, d2, d3, d4] }
  | _ => none }
def WalkNoneWrongFalsely : Prop := walkNoneRow.holds Try.pinned (OpenSpec.ofChange walkNoneWrong)

/- THE SECOND FORM. 'bulk': how many values and letters a reading holds, each counted each time it is reached (what is shared counts as often as it is met; a slice's spare places count too). A statement '..UptoSaid' is the law's where the arguments, and the package variables that the reading takes, are together of bulk at most 1048576: NARROWER than '..Said'. Prove '..Said' where nothing that the law and all that it calls make is longer than what came in: it says more and counts as full. Else prove '..UptoSaid'. A law counts once. -/
mutual
def uptoBulk {H : Type} : DataW H → Nat
  | .lit (.string bytes) => bytes.length + 1
  | .lit _ => 1
  | .nil => 1
  | .ptr d => uptoBulk d + 1
  | .slice elems spare => uptoBulkAll elems + uptoBulkAll spare + 1
  | .agg parts => uptoBulkAll parts + 1
  | .iface _ d => uptoBulk d + 1
  | .map entries => uptoBulkEntries entries + 1
  | .held _ => 1
def uptoBulkAll {H : Type} : List (DataW H) → Nat
  | [] => 0
  | d :: r => uptoBulk d + uptoBulkAll r
def uptoBulkEntries {H : Type} : List (Lit × DataW H) → Nat
  | [] => 0
  | x :: r => uptoBulkEntry x + uptoBulkEntries r
def uptoBulkEntry {H : Type} : Lit × DataW H → Nat
  | (.string bytes, d) => bytes.length + uptoBulk d + 1
  | (_, d) => uptoBulk d + 1
 end
def uptoSmall : (H : Type) → List (DataW H) → Bool := fun _ ds => decide (uptoBulkAll ds ≤ 1048576)
def OpenSpec.upto (s : _root_.Go.ChangeSpec) : _root_.Go.OpenSpec := { _root_.Go.OpenSpec.ofChange s with cond := some uptoSmall }

/-- 'horocyclelaw07.WalkFree', WHERE WHAT IT READS IS OF BULK AT MOST 1048576: true; the input reads as it did. -/
def walkFreeUptoRow : OpenClaim := { program := "ytbfnnlcckpabnaa", sum := "b9dd5c09dbb5a6a619bab168aefed7095fa8442463aa72435916817003f2c325", func := "horocycle/horocyclelaw07.WalkFree", spec := "walkFree", inPlace := ["internal/bytealg.abigen_runtime_cmpstring"], unfollowed := true, recurses := true, plainKeys := false, apart := false, narrowed := true }
def WalkFreeUptoSaid : Prop := walkFreeUptoRow.holds Try.pinned (OpenSpec.upto walkFreeSpec)

/-- 'horocyclelaw07.WalkShortest', WHERE WHAT IT READS IS OF BULK AT MOST 1048576: true; the input reads as it did. -/
def walkShortestUptoRow : OpenClaim := { program := "ytbfnnlcckpabnaa", sum := "b9dd5c09dbb5a6a619bab168aefed7095fa8442463aa72435916817003f2c325", func := "horocycle/horocyclelaw07.WalkShortest", spec := "walkShortest", inPlace := ["internal/bytealg.abigen_runtime_cmpstring"], unfollowed := true, recurses := true, plainKeys := false, apart := false, narrowed := true }
def WalkShortestUptoSaid : Prop := walkShortestUptoRow.holds Try.pinned (OpenSpec.upto walkShortestSpec)

/-- 'horocyclelaw07.WalkNone', WHERE WHAT IT READS IS OF BULK AT MOST 1048576: true; the input reads as it did. -/
def walkNoneUptoRow : OpenClaim := { program := "ytbfnnlcckpabnaa", sum := "b9dd5c09dbb5a6a619bab168aefed7095fa8442463aa72435916817003f2c325", func := "horocycle/horocyclelaw07.WalkNone", spec := "walkNone", inPlace := ["internal/bytealg.abigen_runtime_cmpstring"], unfollowed := true, recurses := true, plainKeys := false, apart := false, narrowed := true }
def WalkNoneUptoSaid : Prop := walkNoneUptoRow.holds Try.pinned (OpenSpec.upto walkNoneSpec)

end Rows
end Go.Proofs.Ytbfnnlcckpabnaa
