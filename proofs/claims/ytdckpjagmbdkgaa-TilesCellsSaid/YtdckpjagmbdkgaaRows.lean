/-
  No cell of these rows narrows 'for every input' (looked for: loops, veiled, ifaces, maps, wideKeys, modest, calm, conditions, laid).
  DERIVED. THE GIVEN ROWS OF THIS SEAT. 5 by the template 'for every input the law returns true; each argument reads behind the call as it read before'; 0 by the template 'total and deterministic' (their statements: YtdckpjagmbdkgaaTotals.lean).
  GIVEN WITH THE SEED: the statements are not yours to turn. If you find one false, say at which input.
  Laid BY PROGRAM, IN A SANDBOX (cutbox-rows.mjs): the forced cells as the released guide's own fill.sh prints them over the translation aa849eebbbcc78dc… (all of the seat's roots in one cut). By AI agents, Wed Nov 11 2026. No macro, syntax, notation, axiom, sorry.
-/
import Derived.Test.YtdckpjagmbdkgaaChecked
import GoSem.Claim
import GoSem.ClaimJoined
import GoSem.ClaimMapViews
import Derived.JoinedTies
import Derived.KernelRfl
namespace Go.Proofs.Ytdckpjagmbdkgaa
/- THE CELL 'sum', in the pinned program and in every row, IS THE sha256 OF THE DUMP (.gsa) THAT YtdckpjagmbdkgaaProg.lean LOADS. Nothing in Lean hashes anything: it is a label: what it is worth is what the hold of that sum in a sandbox is worth. -/
noncomputable def Try.pinned : Pinned := { name := "ytdckpjagmbdkgaa", sum := "aa849eebbbcc78dc271ab1ff6853c03795cd344f1c8273a5438936546a4530a4", checked := Try.checked }
namespace Rows
def none {H : Type} : Left H := { results := [], args := [] }

/-- 'horocyclelaw04.TilesRings': WHATEVER THE INPUT: true; the input reads as it did. -/
def tilesRingsSpec : ChangeSpec := { name := "tilesRings", fn := fun _ => fun
  | [d1, d2] => { results := [.lit (.bool true)], args := [d1, d2] }
  | _ => none }
def tilesRingsRow : OpenClaim := { program := "ytdckpjagmbdkgaa", sum := "aa849eebbbcc78dc271ab1ff6853c03795cd344f1c8273a5438936546a4530a4", func := "horocycle/horocyclelaw04.TilesRings", spec := "tilesRings", unfollowed := true, recurses := true, plainKeys := false, apart := false }
def TilesRingsSaid : Prop := tilesRingsRow.holds Try.pinned (OpenSpec.ofChange tilesRingsSpec)

/-- ITS FALSE NEIGHBOUR: 'it returns false'. Refute it at one input. -/
def tilesRingsWrong : ChangeSpec := { name := "tilesRings", fn := fun _ => fun
  | [d1, d2] => { results := [.lit (.bool false)], args := [d1, d2] }
  | _ => none }
def TilesRingsWrongFalsely : Prop := tilesRingsRow.holds Try.pinned (OpenSpec.ofChange tilesRingsWrong)

/-- 'horocyclelaw04.TilesCounts': WHATEVER THE INPUT: true; the input reads as it did. -/
def tilesCountsSpec : ChangeSpec := { name := "tilesCounts", fn := fun _ => fun
  | [d1, d2] => { results := [.lit (.bool true)], args := [d1, d2] }
  | _ => none }
def tilesCountsRow : OpenClaim := { program := "ytdckpjagmbdkgaa", sum := "aa849eebbbcc78dc271ab1ff6853c03795cd344f1c8273a5438936546a4530a4", func := "horocycle/horocyclelaw04.TilesCounts", spec := "tilesCounts", unfollowed := true, recurses := true, plainKeys := false, apart := false }
def TilesCountsSaid : Prop := tilesCountsRow.holds Try.pinned (OpenSpec.ofChange tilesCountsSpec)

/-- ITS FALSE NEIGHBOUR: 'it returns false'. Refute it at one input. -/
def tilesCountsWrong : ChangeSpec := { name := "tilesCounts", fn := fun _ => fun
  | [d1, d2] => { results := [.lit (.bool false)], args := [d1, d2] }
  | _ => none }
def TilesCountsWrongFalsely : Prop := tilesCountsRow.holds Try.pinned (OpenSpec.ofChange tilesCountsWrong)

/-- 'horocyclelaw04.TilesFar': WHATEVER THE INPUT: true; the input reads as it did. -/
def tilesFarSpec : ChangeSpec := { name := "tilesFar", fn := fun _ => fun
  | [d1, d2, d3, d4, d5] => { results := [.lit (.bool true)], args := [d1, d2, d3, d4, d5] }
  | _ => none }
def tilesFarRow : OpenClaim := { program := "ytdckpjagmbdkgaa", sum := "aa849eebbbcc78dc271ab1ff6853c03795cd344f1c8273a5438936546a4530a4", func := "horocycle/horocyclelaw04.TilesFar", spec := "tilesFar", unfollowed := true, recurses := true, plainKeys := false, apart := false }
def TilesFarSaid : Prop := tilesFarRow.holds Try.pinned (OpenSpec.ofChange tilesFarSpec)

/-- ITS FALSE NEIGHBOUR: 'it returns false'. Refute it at one input. -/
def tilesFarWrong : ChangeSpec := { name := "tilesFar", fn := fun _ => fun
  | [d1, d2, d3, d4, d5] => { results := [.lit (.bool false)], args := [d1, d2, d3, d4, d5] }
  | _ => none }
def TilesFarWrongFalsely : Prop := tilesFarRow.holds Try.pinned (OpenSpec.ofChange tilesFarWrong)

/-- 'horocyclelaw04.TilesCells': WHATEVER THE INPUT: true; the input reads as it did. -/
def tilesCellsSpec : ChangeSpec := { name := "tilesCells", fn := fun _ => fun
  | [d1, d2] => { results := [.lit (.bool true)], args := [d1, d2] }
  | _ => none }
def tilesCellsRow : OpenClaim := { program := "ytdckpjagmbdkgaa", sum := "aa849eebbbcc78dc271ab1ff6853c03795cd344f1c8273a5438936546a4530a4", func := "horocycle/horocyclelaw04.TilesCells", spec := "tilesCells", unfollowed := true, recurses := true, plainKeys := false, apart := false }
def TilesCellsSaid : Prop := tilesCellsRow.holds Try.pinned (OpenSpec.ofChange tilesCellsSpec)

/-- ITS FALSE NEIGHBOUR: 'it returns false'. Refute it at one input. -/
def tilesCellsWrong : ChangeSpec := { name := "tilesCells", fn := fun _ => fun
  | [d1, d2] => { results := [.lit (.bool false)], args := [d1, d2] }
  | _ => none }
def TilesCellsWrongFalsely : Prop := tilesCellsRow.holds Try.pinned (OpenSpec.ofChange tilesCellsWrong)

/-- 'horocyclelaw04.TilesCorners': WHATEVER THE INPUT: true; the input reads as it did. -/
def tilesCornersSpec : ChangeSpec := { name := "tilesCorners", fn := fun _ => fun
  | [d1, d2, d3, d4] => { results := [.lit (.bool true)], args := [d1, d2, d3, d4] }
  | _ => none }
def tilesCornersRow : OpenClaim := { program := "ytdckpjagmbdkgaa", sum := "aa849eebbbcc78dc271ab1ff6853c03795cd344f1c8273a5438936546a4530a4", func := "horocycle/horocyclelaw04.TilesCorners", spec := "tilesCorners", unfollowed := true, recurses := true, plainKeys := false, apart := false }
def TilesCornersSaid : Prop := tilesCornersRow.holds Try.pinned (OpenSpec.ofChange tilesCornersSpec)

/-- ITS FALSE NEIGHBOUR: 'it returns false'. Refute it at one input. -/
def tilesCornersWrong : ChangeSpec := { name := "tilesCorners", fn := fun _ => fun
  | [d1, d2, d3, d4] => { results := [.lit (.bool false)], args := [d1, d2, d3, d4] }
  | _ => none }
def TilesCornersWrongFalsely : Prop := tilesCornersRow.holds Try.pinned (OpenSpec.ofChange tilesCornersWrong)

/- THE SECOND FORM. 'bulk': how many values and letters a reading holds, each counted each time it is reached (what is shared counts as often as it is met; a slice's spare places count too). A statement '..UptoSaid' is the law's where the arguments, and the package variables that the reading takes, are together of bulk at most 1048576: NARROWER than '..Said'. Prove '..Said' where nothing that the law and all that it calls make is longer than what came in: it says more and counts as full. Else prove '..UptoSaid'. A law counts once. -/
mutual
def uptoBulk {H : Type} : DataW H → Nat
  | .lit (.string bytes) => bytes.length + 1
  | .lit _ => 1
  | .nil => 1
  | .ptr d => uptoBulk d + 1
  | .slice elems spare => uptoBulkAll elems + uptoBulkAll spare + 1
  | .agg parts => uptoBulkAll parts + 1
  | .iface _ d => uptoBulk d + 1
  | .map entries => uptoBulkEntries entries + 1
  | .held _ => 1
def uptoBulkAll {H : Type} : List (DataW H) → Nat
  | [] => 0
  | d :: r => uptoBulk d + uptoBulkAll r
def uptoBulkEntries {H : Type} : List (Lit × DataW H) → Nat
  | [] => 0
  | x :: r => uptoBulkEntry x + uptoBulkEntries r
def uptoBulkEntry {H : Type} : Lit × DataW H → Nat
  | (.string bytes, d) => bytes.length + uptoBulk d + 1
  | (_, d) => uptoBulk d + 1
 end
def uptoSmall : (H : Type) → List (DataW H) → Bool := fun _ ds => decide (uptoBulkAll ds ≤ 1048576)
def OpenSpec.upto (s : _root_.Go.ChangeSpec) : _root_.Go.OpenSpec := { _root_.Go.OpenSpec.ofChange s with cond := some uptoSmall }

/-- 'horocyclelaw04.TilesRings', WHERE WHAT IT READS IS OF BULK AT MOST 1048576: true; the input reads as it did. -/
def tilesRingsUptoRow : OpenClaim := { program := "ytdckpjagmbdkgaa", sum := "aa849eebbbcc78dc271ab1ff6853c03795cd344f1c8273a5438936546a4530a4", func := "horocycle/horocyclelaw04.TilesRings", spec := "tilesRings", unfollowed := true, recurses := true, plainKeys := false, apart := false, narrowed := true }
def TilesRingsUptoSaid : Prop := tilesRingsUptoRow.holds Try.pinned (OpenSpec.upto tilesRingsSpec)

/-- 'horocyclelaw04.TilesCounts', WHERE WHAT IT READS IS OF BULK AT MOST 1048576: true; the input reads as it did. -/
def tilesCountsUptoRow : OpenClaim := { program := "ytdckpjagmbdkgaa", sum := "aa849eebbbcc78dc271ab1ff6853c03795cd344f1c8273a5438936546a4530a4", func := "horocycle/horocyclelaw04.TilesCounts", spec := "tilesCounts", unfollowed := true, recurses := true, plainKeys := false, apart := false, narrowed := true }
def TilesCountsUptoSaid : Prop := tilesCountsUptoRow.holds Try.pinned (OpenSpec.upto tilesCountsSpec)

/-- 'horocyclelaw04.TilesFar', WHERE WHAT IT READS IS OF BULK AT MOST 1048576: true; the input reads as it did. -/
def tilesFarUptoRow : OpenClaim := { program := "ytdckpjagmbdkgaa", sum := "aa849eebbbcc78dc271ab1ff6853c03795cd344f1c8273a5438936546a4530a4", func := "horocycle/horocyclelaw04.TilesFar", spec := "tilesFar", unfollowed := true, recurses := true, plainKeys := false, apart := false, narrowed := true }
def TilesFarUptoSaid : Prop := tilesFarUptoRow.holds Try.pinned (OpenSpec.upto tilesFarSpec)

/-- 'horocyclelaw04.TilesCells', WHERE WHAT IT READS IS OF BULK AT MOST 1048576: true; the input reads as it did. -/
def tilesCellsUptoRow : OpenClaim := { program := "ytdckpjagmbdkgaa", sum := "aa849eebbbcc78dc271ab1ff6853c03795cd344f1c8273a5438936546a4530a4", func := "horocycle/horocyclelaw04.TilesCells", spec := "tilesCells", unfollowed := true, recurses := true, plainKeys := false, apart := false, narrowed := true }
def TilesCellsUptoSaid : Prop := tilesCellsUptoRow.holds Try.pinned (OpenSpec.upto tilesCellsSpec)

/-- 'horocyclelaw04.TilesCorners', WHERE WHAT IT READS IS OF BULK AT MOST 1048576: true; the input reads as it did. -/
def tilesCornersUptoRow : OpenClaim := { program := "ytdckpjagmbdkgaa", sum := "aa849eebbbcc78dc271ab1ff6853c03795cd344f1c8273a5438936546a4530a4", func := "horocycle/horocyclelaw04.TilesCorners", spec := "tilesCorners", unfollowed := true, recurses := true, plainKeys := false, apart := false, narrowed := true }
def TilesCornersUptoSaid : Prop := tilesCornersUptoRow.holds Try.pinned (OpenSpec.upto tilesCornersSpec)

end Rows
end Go.Proofs.Ytdckpjagmbdkgaa
