/-
  No cell of these rows narrows 'for every input' (looked for: loops, veiled, ifaces, maps, wideKeys, modest, calm, conditions, laid).
  DERIVED. THE GIVEN ROWS OF THIS SEAT. 6 by the template 'for every input the law returns true; each argument reads behind the call as it read before'; 0 by the template 'total and deterministic' (their statements: YtfdklmpkienfhaaGreatTotals.lean).
  GIVEN WITH THE SEED: the statements are not yours to turn. If you find one false, say at which input.
  Laid BY PROGRAM, IN A SANDBOX (cutbox-rows.mjs): the forced cells as the released guide's own fill.sh prints them over the translation 41db4eeb37dfcbfd… (all of the seat's roots in one cut). By AI agents, Wed Nov 11 2026. No macro, syntax, notation, axiom, sorry.
-/
import Derived.Test.YtfdklmpkienfhaaGreatChecked
import GoSem.Claim
import GoSem.ClaimJoined
import GoSem.ClaimMapViews
import Derived.JoinedTies
import Derived.KernelRfl
namespace Go.Proofs.YtfdklmpkienfhaaGreat
/- THE CELL 'sum', in the pinned program and in every row, IS THE sha256 OF THE DUMP (.gsa) THAT YtfdklmpkienfhaaGreatProg.lean LOADS. Nothing in Lean hashes anything: it is a label: what it is worth is what the hold of that sum in a sandbox is worth. -/
noncomputable def Tryz.pinned : Pinned := { name := "ytfdklmpkienfhaagreat", sum := "41db4eeb37dfcbfd65999ffacd7c571d5a347a3114767577d88adba6a51ab856", checked := Tryz.checked }
namespace Rows
def none {H : Type} : Left H := { results := [], args := [] }

/-- 'horocyclelaw12.CoverStays': WHATEVER THE INPUT: true; the input reads as it did. -/
def coverStaysSpec : ChangeSpec := { name := "coverStays", fn := fun _ => fun
  | [d1, d2, d3, d4, d5, d6, d7] => { results := [.lit (.bool true)], args := [d1, d2, d3, d4, d5, d6, d7] }
  | _ => none }
def coverStaysRow : OpenClaim := { program := "ytfdklmpkienfhaagreat", sum := "41db4eeb37dfcbfd65999ffacd7c571d5a347a3114767577d88adba6a51ab856", func := "horocycle/horocyclelaw12.CoverStays", spec := "coverStays", unfollowed := true, recurses := true, plainKeys := false, apart := false }
def CoverStaysSaid : Prop := coverStaysRow.holds Tryz.pinned (OpenSpec.ofChange coverStaysSpec)

/-- ITS FALSE NEIGHBOUR: 'it returns false'. Refute it at one input. -/
def coverStaysWrong : ChangeSpec := { name := "coverStays", fn := fun _ => fun
  | [d1, d2, d3, d4, d5, d6, d7] => { results := [.lit (.bool false)], args := [d1, d2, d3, d4, d5, d6, d7] }
  | _ => none }
def CoverStaysWrongFalsely : Prop := coverStaysRow.holds Tryz.pinned (OpenSpec.ofChange coverStaysWrong)

/-- 'horocyclelaw12.CoverSame': WHATEVER THE INPUT: true; the input reads as it did. -/
def coverSameSpec : ChangeSpec := { name := "coverSame", fn := fun _ => fun
  | [d1, d2, d3, d4, d5, d6, d7, d8] => { results := [.lit (.bool true)], args := [d1, d2, d3, d4, d5, d6, d7, d8] }
  | _ => none }
def coverSameRow : OpenClaim := { program := "ytfdklmpkienfhaagreat", sum := "41db4eeb37dfcbfd65999ffacd7c571d5a347a3114767577d88adba6a51ab856", func := "horocycle/horocyclelaw12.CoverSame", spec := "coverSame", unfollowed := true, recurses := true, plainKeys := false, apart := false }
def CoverSameSaid : Prop := coverSameRow.holds Tryz.pinned (OpenSpec.ofChange coverSameSpec)

/-- ITS FALSE NEIGHBOUR: 'it returns false'. Refute it at one input. -/
def coverSameWrong : ChangeSpec := { name := "coverSame", fn := fun _ => fun
  | [d1, d2, d3, d4, d5, d6, d7, d8] => { results := [.lit (.bool false)], args := [d1, d2, d3, d4, d5, d6, d7, d8] }
  | _ => none }
def CoverSameWrongFalsely : Prop := coverSameRow.holds Tryz.pinned (OpenSpec.ofChange coverSameWrong)

/-- 'horocyclelaw12.CoverGroup': WHATEVER THE INPUT: true; the input reads as it did. -/
def coverGroupSpec : ChangeSpec := { name := "coverGroup", fn := fun _ => fun
  | [d1, d2, d3, d4, d5, d6] => { results := [.lit (.bool true)], args := [d1, d2, d3, d4, d5, d6] }
  | _ => none }
def coverGroupRow : OpenClaim := { program := "ytfdklmpkienfhaagreat", sum := "41db4eeb37dfcbfd65999ffacd7c571d5a347a3114767577d88adba6a51ab856", func := "horocycle/horocyclelaw12.CoverGroup", spec := "coverGroup", unfollowed := true, recurses := true, plainKeys := false, apart := false }
def CoverGroupSaid : Prop := coverGroupRow.holds Tryz.pinned (OpenSpec.ofChange coverGroupSpec)

/-- ITS FALSE NEIGHBOUR: 'it returns false'. Refute it at one input. -/
def coverGroupWrong : ChangeSpec := { name := "coverGroup", fn := fun _ => fun
  | [d1, d2, d3, d4, d5, d6] => { results := [.lit (.bool false)], args := [d1, d2, d3, d4, d5, d6] }
  | _ => none }
def CoverGroupWrongFalsely : Prop := coverGroupRow.holds Tryz.pinned (OpenSpec.ofChange coverGroupWrong)

/-- 'horocyclelaw12.CoverForms': WHATEVER THE INPUT: true; the input reads as it did. -/
def coverFormsSpec : ChangeSpec := { name := "coverForms", fn := fun _ => fun
  | [d1, d2, d3, d4] => { results := [.lit (.bool true)], args := [d1, d2, d3, d4] }
  | _ => none }
def coverFormsRow : OpenClaim := { program := "ytfdklmpkienfhaagreat", sum := "41db4eeb37dfcbfd65999ffacd7c571d5a347a3114767577d88adba6a51ab856", func := "horocycle/horocyclelaw12.CoverForms", spec := "coverForms", unfollowed := true, recurses := true, plainKeys := false, apart := false }
def CoverFormsSaid : Prop := coverFormsRow.holds Tryz.pinned (OpenSpec.ofChange coverFormsSpec)

/-- ITS FALSE NEIGHBOUR: 'it returns false'. Refute it at one input. -/
def coverFormsWrong : ChangeSpec := { name := "coverForms", fn := fun _ => fun
  | [d1, d2, d3, d4] => { results := [.lit (.bool false)], args := [d1, d2, d3, d4] }
  | _ => none }
def CoverFormsWrongFalsely : Prop := coverFormsRow.holds Tryz.pinned (OpenSpec.ofChange coverFormsWrong)

/-- 'horocyclelaw12.CoverClasses': WHATEVER THE INPUT: true; the input reads as it did. -/
def coverClassesSpec : ChangeSpec := { name := "coverClasses", fn := fun _ => fun
  | [d1, d2, d3, d4, d5] => { results := [.lit (.bool true)], args := [d1, d2, d3, d4, d5] }
  | _ => none }
def coverClassesRow : OpenClaim := { program := "ytfdklmpkienfhaagreat", sum := "41db4eeb37dfcbfd65999ffacd7c571d5a347a3114767577d88adba6a51ab856", func := "horocycle/horocyclelaw12.CoverClasses", spec := "coverClasses", unfollowed := true, recurses := true, plainKeys := false, apart := false }
def CoverClassesSaid : Prop := coverClassesRow.holds Tryz.pinned (OpenSpec.ofChange coverClassesSpec)

/-- ITS FALSE NEIGHBOUR: 'it returns false'. Refute it at one input. -/
def coverClassesWrong : ChangeSpec := { name := "coverClasses", fn := fun _ => fun
  | [d1, d2, d3, d4, d5] => { results := [.lit (.bool false)], args := [d1, d2, d3, d4, d5] }
  | _ => none }
def CoverClassesWrongFalsely : Prop := coverClassesRow.holds Tryz.pinned (OpenSpec.ofChange coverClassesWrong)

/-- 'horocyclelaw12.CoverLists': WHATEVER THE INPUT: true; the input reads as it did. -/
def coverListsSpec : ChangeSpec := { name := "coverLists", fn := fun _ => fun
  | [d1, d2, d3, d4, d5] => { results := [.lit (.bool true)], args := [d1, d2, d3, d4, d5] }
  | _ => none }
def coverListsRow : OpenClaim := { program := "ytfdklmpkienfhaagreat", sum := "41db4eeb37dfcbfd65999ffacd7c571d5a347a3114767577d88adba6a51ab856", func := "horocycle/horocyclelaw12.CoverLists", spec := "coverLists", unfollowed := true, recurses := true, plainKeys := false, apart := false }
def CoverListsSaid : Prop := coverListsRow.holds Tryz.pinned (OpenSpec.ofChange coverListsSpec)

/-- ITS FALSE NEIGHBOUR: 'it returns false'. Refute it at one input. -/
def coverListsWrong : ChangeSpec := { name := "coverLists", fn := fun _ => fun
  | [d1, d2, d3, d4, d5] => { results := [.lit (.bool false)], args := [d1, d2, d3, d4, d5] }
  | _ => none }
def CoverListsWrongFalsely : Prop := coverListsRow.holds Tryz.pinned (OpenSpec.ofChange coverListsWrong)

/- THE SECOND FORM. 'bulk': how many values and letters a reading holds, each counted each time it is reached (what is shared counts as often as it is met; a slice's spare places count too). A statement '..UptoSaid' is the law's where the arguments, and the package variables that the reading takes, are together of bulk at most 1048576: NARROWER than '..Said'. Prove '..Said' where nothing that the law and all that it calls make is longer than what came in: it says more and counts as full. Else prove '..UptoSaid'. A law counts once. -/
mutual
def uptoBulk {H : Type} : DataW H → Nat
  | .lit (.string bytes) => bytes.length + 1
  | .lit _ => 1
  | .nil => 1
  | .ptr d => uptoBulk d + 1
  | .slice elems spare => uptoBulkAll elems + uptoBulkAll spare + 1
  | .agg parts => uptoBulkAll parts + 1
  | .iface _ d => uptoBulk d + 1
  | .map entries => uptoBulkEntries entries + 1
  | .held _ => 1
def uptoBulkAll {H : Type} : List (DataW H) → Nat
  | [] => 0
  | d :: r => uptoBulk d + uptoBulkAll r
def uptoBulkEntries {H : Type} : List (Lit × DataW H) → Nat
  | [] => 0
  | x :: r => uptoBulkEntry x + uptoBulkEntries r
def uptoBulkEntry {H : Type} : Lit × DataW H → Nat
  | (.string bytes, d) => bytes.length + uptoBulk d + 1
  | (_, d) => uptoBulk d + 1
 end
def uptoSmall : (H : Type) → List (DataW H) → Bool := fun _ ds => decide (uptoBulkAll ds ≤ 1048576)
def OpenSpec.upto (s : _root_.Go.ChangeSpec) : _root_.Go.OpenSpec := { _root_.Go.OpenSpec.ofChange s with cond := some uptoSmall }

/-- 'horocyclelaw12.CoverStays', WHERE WHAT IT READS IS OF BULK AT MOST 1048576: true; the input reads as it did. -/
def coverStaysUptoRow : OpenClaim := { program := "ytfdklmpkienfhaagreat", sum := "41db4eeb37dfcbfd65999ffacd7c571d5a347a3114767577d88adba6a51ab856", func := "horocycle/horocyclelaw12.CoverStays", spec := "coverStays", unfollowed := true, recurses := true, plainKeys := false, apart := false, narrowed := true }
def CoverStaysUptoSaid : Prop := coverStaysUptoRow.holds Tryz.pinned (OpenSpec.upto coverStaysSpec)

/-- 'horocyclelaw12.CoverSame', WHERE WHAT IT READS IS OF BULK AT MOST 1048576: true; the input reads as it did. -/
def coverSameUptoRow : OpenClaim := { program := "ytfdklmpkienfhaagreat", sum := "41db4eeb37dfcbfd65999ffacd7c571d5a347a3114767577d88adba6a51ab856", func := "horocycle/horocyclelaw12.CoverSame", spec := "coverSame", unfollowed := true, recurses := true, plainKeys := false, apart := false, narrowed := true }
def CoverSameUptoSaid : Prop := coverSameUptoRow.holds Tryz.pinned (OpenSpec.upto coverSameSpec)

/-- 'horocyclelaw12.CoverGroup', WHERE WHAT IT READS IS OF BULK AT MOST 1048576: true; the input reads as it did. -/
def coverGroupUptoRow : OpenClaim := { program := "ytfdklmpkienfhaagreat", sum := "41db4eeb37dfcbfd65999ffacd7c571d5a347a3114767577d88adba6a51ab856", func := "horocycle/horocyclelaw12.CoverGroup", spec := "coverGroup", unfollowed := true, recurses := true, plainKeys := false, apart := false, narrowed := true }
def CoverGroupUptoSaid : Prop := coverGroupUptoRow.holds Tryz.pinned (OpenSpec.upto coverGroupSpec)

/-- 'horocyclelaw12.CoverForms', WHERE WHAT IT READS IS OF BULK AT MOST 1048576: true; the input reads as it did. -/
def coverFormsUptoRow : OpenClaim := { program := "ytfdklmpkienfhaagreat", sum := "41db4eeb37dfcbfd65999ffacd7c571d5a347a3114767577d88adba6a51ab856", func := "horocycle/horocyclelaw12.CoverForms", spec := "coverForms", unfollowed := true, recurses := true, plainKeys := false, apart := false, narrowed := true }
def CoverFormsUptoSaid : Prop := coverFormsUptoRow.holds Tryz.pinned (OpenSpec.upto coverFormsSpec)

/-- 'horocyclelaw12.CoverClasses', WHERE WHAT IT READS IS OF BULK AT MOST 1048576: true; the input reads as it did. -/
def coverClassesUptoRow : OpenClaim := { program := "ytfdklmpkienfhaagreat", sum := "41db4eeb37dfcbfd65999ffacd7c571d5a347a3114767577d88adba6a51ab856", func := "horocycle/horocyclelaw12.CoverClasses", spec := "coverClasses", unfollowed := true, recurses := true, plainKeys := false, apart := false, narrowed := true }
def CoverClassesUptoSaid : Prop := coverClassesUptoRow.holds Tryz.pinned (OpenSpec.upto coverClassesSpec)

/-- 'horocyclelaw12.CoverLists', WHERE WHAT IT READS IS OF BULK AT MOST 1048576: true; the input reads as it did. -/
def coverListsUptoRow : OpenClaim := { program := "ytfdklmpkienfhaagreat", sum := "41db4eeb37dfcbfd65999ffacd7c571d5a347a3114767577d88adba6a51ab856", func := "horocycle/horocyclelaw12.CoverLists", spec := "coverLists", unfollowed := true, recurses := true, plainKeys := false, apart := false, narrowed := true }
def CoverListsUptoSaid : Prop := coverListsUptoRow.holds Tryz.pinned (OpenSpec.upto coverListsSpec)

end Rows
end Go.Proofs.YtfdklmpkienfhaaGreat
