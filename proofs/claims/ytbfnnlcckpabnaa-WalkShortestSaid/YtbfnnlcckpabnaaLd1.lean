/- walk.rest: bytes, byte1; walk.need: taken from an image's front, or a panic. -/
import Derived.Test.YtbfnnlcckpabnaaBytes
import Derived.Test.YtbfnnlcckpabnaaWk6
import Derived.WalkLawsBesides
namespace Go.Proofs.Ytbfnnlcckpabnaa
set_option linter.unusedSimpArgs false
set_option linter.unusedVariables false
open Go.RowKit

/-- The panic of bytes that are no image. -/
abbrev noImg : List PanicEntry := [{ v := .iface 82 (.agg #[]), recovered := false }]

set_option maxRecDepth 100000 in
theorem walk_need_ok (w : World) : Calls Try.prog 52 #[.bool true] w fun e w' => e = .returned (.tuple #[]) ∧ w' = w := by
  go_enter Try.func52, Try.ntmps52
  go_wp2_with fail
  first | go_end0 | go_ret
  exact ⟨rfl, rfl⟩

set_option maxRecDepth 100000 in
theorem walk_need_bad (w : World) : Calls Try.prog 52 #[.bool false] w fun e w' => e = .panicked noImg ∧ w' = w := by
  go_enter Try.func52, Try.ntmps52
  go_wp2_with fail
  exact ⟨rfl, rfl, rfl⟩

/-- The reader of an image in block rb: the bytes that are left, the map. -/
def Rd (N : Nat) (w : World) (rb : Nat) (mp : Value) (l : List UInt8) : Prop :=
  ∃ v, w.heap[rb]? = some (.cells #[v, mp] 88 (0, 0)) ∧ N ≤ rb ∧ BSlice N w v l

theorem Rd.only {N : Nat} {w w' : World} {rb : Nat} {mp : Value} {l : List UInt8} (h : Rd N w rb mp l) {B : Nat → Prop} (hb : Only B w w') (h1 : ¬ B rb) (h2 : ∀ k, k < N → ¬ B k) : Rd N w' rb mp l := by
  obtain ⟨v, h3, h4, h5⟩ := h
  exact ⟨v, (hb.block rb h1).trans h3, h4, h5.of_heap fun g hg => hb.block g (h2 g hg)⟩

theorem Rd.lt {N : Nat} {w : World} {rb : Nat} {mp : Value} {l : List UInt8} (h : Rd N w rb mp l) : N ≤ rb ∧ rb < w.heap.size := by
  obtain ⟨v, h3, h4, h5⟩ := h
  exact ⟨h4, (Array.getElem?_eq_some_iff.1 h3).1⟩

theorem Rd.below {N : Nat} {w w' : World} {rb : Nat} {mp : Value} {l : List UInt8} (h : Rd N w rb mp l) (hb : Below w.heap.size w w') : Rd N w' rb mp l := by
  have hlt := h.lt
  obtain ⟨v, h3, h4, h5⟩ := h
  exact ⟨v, (hb.block rb hlt.2).trans h3, h4, h5.of_heap fun g hg => hb.block g (by omega)⟩

/-- Some of it was read. -/
def RdPost (N rb : Nat) (mp : Value) (w : World) (r : Value) (l : List UInt8) (e : Ending) (w' : World) : Prop :=
  e = .returned r ∧ Rd N w' rb mp l ∧ Only (fun k => k = rb ∨ w.heap.size ≤ k) w w'
/-- It is no image. -/
def BadPost (rb : Nat) (w : World) (e : Ending) (w' : World) : Prop := e = .panicked noImg ∧ Only (fun k => k = rb ∨ w.heap.size ≤ k) w w'



set_option maxRecDepth 100000 in
set_option maxHeartbeats 1000000 in
theorem walk_bytes {N : Nat} {w : World} {rb : Nat} {mp : Value} {l : List UInt8} (h : Rd N w rb mp l) {n : Nat} (hn : n ≤ l.length) :
    Calls Try.prog 56 #[.pointer (some ⟨rb, 0, none⟩), .int .i64 n] w (RdPost N rb mp w (str (l.take n)) (l.drop n)) := by
  obtain ⟨v, hr, hN, hb⟩ := h
  obtain ⟨v1, v2, h1, h2, h3, h4⟩ := hb.take (P := Try.prog) 35 5 9 Try.underlying35 Try.underlying5 Try.underlying9 size_u8 hn
  obtain ⟨a, cap, rfl, hcap, hcells⟩ := hb
  have c0 := cell_of_heap hr 0
  have f0 := free_of_heap hr 0
  simp at c0
  have h5 := h3 w (fun _ _ => rfl)
  obtain ⟨a2, cap2, e2, _, _⟩ := id h4
  rw [List.length_drop] at e2
  subst e2
  have H4 := Lib.hid h4
  clear h3 hcells h4
  have HR := Lib.hid hr; clear hr
  have HN := Lib.hid hN; clear hN
  have g : ¬ l.length < n := by omega
  clear hn hcap
  unfold str
  go_enter Try.func56, Try.ntmps56
  go_wp2_with fail
  go_ret
  refine ⟨rfl, ⟨_, heap_setCell_same _ _ _ _ _ _ HR.out, HN.out, H4.out.of_heap fun g hg => ?_⟩, (Only.refl _ w).setCell (p := ⟨rb, 0, none⟩) (.inl rfl) _⟩
  exact ((Only.refl (fun k => k = rb) w).setCell (p := ⟨rb, 0, none⟩) rfl _).block g (by have := HN.out; omega)

set_option maxRecDepth 100000 in
set_option maxHeartbeats 1000000 in
theorem walk_bytes_bad {N : Nat} {w : World} {rb : Nat} {mp : Value} {l : List UInt8} (h : Rd N w rb mp l) {n : Nat} (hn : l.length < n) :
    Calls Try.prog 56 #[.pointer (some ⟨rb, 0, none⟩), .int .i64 n] w (BadPost rb w) := by
  obtain ⟨v, hr, hN, hb⟩ := h
  obtain ⟨a, cap, rfl, hcap, hcells⟩ := hb
  have c0 := cell_of_heap hr 0
  simp at c0
  clear hcells
  have HR := Lib.hid hr; clear hr
  have HN := Lib.hid hN; clear hN
  clear hcap
  go_enter Try.func56, Try.ntmps56
  go_wp2_with fail
  exact ⟨rfl, rfl, Only.refl _ _⟩

set_option maxRecDepth 100000 in
set_option maxHeartbeats 1000000 in
theorem walk_byte1 {N : Nat} {w : World} {rb : Nat} {mp : Value} {c : UInt8} {l : List UInt8} (h : Rd N w rb mp (c :: l)) :
    Calls Try.prog 51 #[.pointer (some ⟨rb, 0, none⟩)] w (RdPost N rb mp w (.int .i64 c.toNat) l) := by
  have HB := Lib.hid (walk_bytes h (n := 1) (by simp))
  clear h
  have HWR := Lib.hid (wrap64_small (x := (c.toNat : Int)) (by omega) (by have := c.toNat_lt; omega))
  have hix : ∀ W' : World, (Instr.index 9 (.string ⟨#[c]⟩) (.int .i64 0)).run Try.prog W' = .ok (.int .u8 c.toNat) W' := fun W' => run_index_str [c] 0 c rfl W'
  go_enter Try.func51, Try.ntmps51
  go_wp2_with fail
  refine HB.out.mono ?_
  rintro e w1 ⟨rfl, h1, h2⟩
  have H1 := Lib.hid h1; have H2 := Lib.hid h2
  clear HB h1 h2
  unfold str
  go_wp2_with fail
  go_ret
  refine ⟨?_, H1.out, H2.out⟩
  show Ending.returned (.int .i64 (wrap64 (c.toNat : Int))) = _
  rw [HWR.out]

set_option maxRecDepth 100000 in
set_option maxHeartbeats 1000000 in
theorem walk_byte1_bad {N : Nat} {w : World} {rb : Nat} {mp : Value} (h : Rd N w rb mp []) :
    Calls Try.prog 51 #[.pointer (some ⟨rb, 0, none⟩)] w (BadPost rb w) := by
  have HB := Lib.hid (walk_bytes_bad h (n := 1) (by simp))
  clear h
  go_enter Try.func51, Try.ntmps51
  go_wp2_with fail
  refine HB.out.mono ?_
  rintro e w1 ⟨rfl, h2⟩
  have H2 := Lib.hid h2
  clear HB h2
  exact ⟨rfl, rfl, H2.out⟩
end Go.Proofs.Ytbfnnlcckpabnaa
