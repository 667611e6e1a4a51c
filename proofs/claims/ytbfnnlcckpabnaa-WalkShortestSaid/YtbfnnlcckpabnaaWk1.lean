/- The small functions of package walk. -/
import Derived.Test.YtbfnnlcckpabnaaTimes
import Derived.Test.YtbfnnlcckpabnaaEdge
namespace Go.Proofs.Ytbfnnlcckpabnaa
set_option linter.unusedSimpArgs false
set_option linter.unusedVariables false
open Go.RowKit

/-- The cells of a map of the walk. -/
def mapCells (o : Hy.Ord) (wb tb : Nat) : Array Value := #[.int .i64 o.m01, .int .i64 o.m12, .int .i64 o.m02, .bool true, .map (some wb), .map (some tb)]

abbrev Walls := List ((List UInt8 × Int) × Bool)
abbrev Things := List (List UInt8 × List UInt8)

structure MRep (w : World) (o : Hy.Ord) (mb wb tb : Nat) (W : Walls) (T : Things) : Prop where
  cells : w.heap[mb]? = some (.cells (mapCells o wb tb) 52 (0, 0))
  walls : MapAt w encEdge Value.bool wb W
  things : MapAt w str str tb T
  apart : wb ≠ tb
  ok : Hy.ordErr o.m01 o.m12 o.m02 = 0

theorem MRep.below {w w' : World} {o : Hy.Ord} {mb wb tb : Nat} {W : Walls} {T : Things} (h : MRep w o mb wb tb W T) {N : Nat} (hb : Below N w w') (h1 : mb < N) (h2 : wb < N) (h3 : tb < N) : MRep w' o mb wb tb W T :=
  ⟨(hb.block mb h1).trans h.cells, h.walls.of_heap (hb.block wb h2), h.things.of_heap (hb.block tb h3), h.apart, h.ok⟩

theorem MRep.lt {w : World} {o : Hy.Ord} {mb wb tb : Nat} {W : Walls} {T : Things} (h : MRep w o mb wb tb W T) : mb < w.heap.size ∧ wb < w.heap.size ∧ tb < w.heap.size :=
  ⟨(Array.getElem?_eq_some_iff.1 h.cells).1, h.walls.lt, h.things.lt⟩

theorem MRep.grow {w w' : World} {o : Hy.Ord} {mb wb tb : Nat} {W : Walls} {T : Things} (h : MRep w o mb wb tb W T) (hb : Below w.heap.size w w') : MRep w' o mb wb tb W T :=
  h.below hb h.lt.1 h.lt.2.1 h.lt.2.2

set_option maxRecDepth 100000 in
set_option maxHeartbeats 1000000 in
theorem walk_letter (i : Nat) (hi : i < 256) (w : World) :
    Calls Try.prog 44 #[.int .i64 i] w fun e w' => e = .returned (str (Hy.letter i)) ∧ Below w.heap.size w w' := by
  have kl := run_letter (w.alloc (.cells #[.int .u8 i] 5)) w.heap.size i (by simp)
  unfold str at *
  go_enter Try.func44, Try.ntmps44
  go_wp2_with fail
  go_ret
  exact ⟨rfl, (Below.refl _ _).alloc (Nat.le_refl _) _⟩

set_option maxRecDepth 100000 in
theorem walk_none_nil (w : World) : Calls Try.prog 40 #[.pointer none] w fun e w' => e = .returned (.bool true) ∧ w = w' := by
  go_enter Try.func40, Try.ntmps40
  go_wp2_with fail
  go_ret
  exact ⟨rfl, rfl⟩

set_option maxRecDepth 100000 in
theorem walk_none_some (b : Nat) (x : Bool) (w : World) (h : w.cell? ⟨b, 3, none⟩ = some (.bool x)) : Calls Try.prog 40 #[.pointer (some ⟨b, 0, none⟩)] w fun e w' => e = .returned (.bool (!x)) ∧ w = w' := by
  go_enter Try.func40, Try.ntmps40
  go_wp2_with fail
  go_ret
  exact ⟨rfl, rfl⟩

set_option maxRecDepth 100000 in
set_option maxHeartbeats 1000000 in
theorem walk_side (a b : List UInt8) (m : Int) (w : World) :
    Calls Try.prog 37 #[str a, str b, .int .i64 m] w fun e w' => e = .returned (encEdge (if b.length < a.length then b else a, m)) ∧ Below w.heap.size w w' := by
  unfold str encEdge
  by_cases h : b.length < a.length
  · rw [if_pos h]
    go_enter Try.func37, Try.ntmps37
    go_wp2_with fail
    exact bodyPost_ret (v := .agg #[.string ⟨b.toArray⟩, .int .i64 m]) (by simp [results, Try.results37, go_sem]) rfl ⟨rfl, ((Below.refl _ _).alloc (Nat.le_refl _) _)⟩
  · rw [if_neg h]
    go_enter Try.func37, Try.ntmps37
    go_wp2_with fail
    exact bodyPost_ret (v := .agg #[.string ⟨a.toArray⟩, .int .i64 m]) (by simp [results, Try.results37, go_sem]) rfl ⟨rfl, ((Below.refl _ _).alloc (Nat.le_refl _) _)⟩

set_option maxRecDepth 100000 in
set_option maxHeartbeats 1000000 in
theorem walk_to {w : World} {o : Hy.Ord} {mb wb tb : Nat} {W : Walls} {T : Things} (h : MRep w o mb wb tb W T) (ho : Small o) (u v : List UInt8) (hw : Hy.wordsErr [u, v] = 0) (fuel : Nat) (nf : List UInt8) (hnf : Hy.norm o fuel (u ++ v) = some nf) :
    Calls Try.prog 36 #[.pointer (some ⟨mb, 0, none⟩), str u, str v] w fun e w' => e = .returned (str nf) ∧ Below w.heap.size w w' := by
  have c0 : w.cell? ⟨mb, 0, none⟩ = some (.int .i64 o.m01) := cell_of_heap h.cells 0
  have c1 : w.cell? ⟨mb, 1, none⟩ = some (.int .i64 o.m12) := cell_of_heap h.cells 1
  have c2 : w.cell? ⟨mb, 2, none⟩ = some (.int .i64 o.m02) := cell_of_heap h.cells 2
  have HCALL := Lib.hid (words_Times_ok o ho u v w h.ok hw fuel nf hnf)
  clear h hw hnf
  unfold ordersV at *
  go_enter Try.func36, Try.ntmps36
  go_wp2_with fail
  refine HCALL.out.mono ?_
  rintro e w1 ⟨rfl, hB⟩
  have HB := Lib.hid hB; clear hB
  clear HCALL
  go_wp2_with fail
  go_ret
  exact ⟨rfl, HB.out⟩
end Go.Proofs.Ytbfnnlcckpabnaa
