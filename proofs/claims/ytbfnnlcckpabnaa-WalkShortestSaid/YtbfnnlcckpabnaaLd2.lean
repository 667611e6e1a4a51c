/- walk.reader: count, tile; walk.ordered. -/
import Derived.Test.YtbfnnlcckpabnaaLd1
import Derived.Deep.RegionHeld3
import Derived.Deep.DeepCutAuto
namespace Go.Proofs.Ytbfnnlcckpabnaa
set_option linter.unusedSimpArgs false
set_option linter.unusedVariables false
open Go.RowKit

theorem Rd.heap {N : Nat} {w w' : World} {rb : Nat} {mp : Value} {l : List UInt8} (h : Rd N w rb mp l) (hh : w'.heap = w.heap) : Rd N w' rb mp l := by
  obtain ⟨v, h3, h4, h5⟩ := h
  exact ⟨v, by rw [hh]; exact h3, h4, h5.of_heap fun g hg => by rw [hh]⟩

theorem wrap_i64 (x : Int) : IntKind.i64.wrap x = wrap64 x := by rw [IntKind.wrap_i64]; unfold wrap64; rfl

theorem only_undrew {B : Nat → Prop} {w w' : World} (h : Only B w.drew w') : Only B w w' := ⟨h.os, h.tape, h.output, h.size, h.block⟩

theorem Only.step {rb : Nat} {w w1 w2 : World} (h1 : Only (fun k => k = rb ∨ w.heap.size ≤ k) w w1) (h2 : Only (fun k => k = rb ∨ w1.heap.size ≤ k) w1 w2) : Only (fun k => k = rb ∨ w.heap.size ≤ k) w w2 :=
  h1.trans (h2.mono fun k hk => hk.imp id fun h => Nat.le_trans h1.size h)

set_option maxRecDepth 100000 in
set_option maxHeartbeats 2000000 in
theorem walk_count {N : Nat} {w : World} {rb : Nat} {mp : Value} {a b : UInt8} {l : List UInt8} (h : Rd N w rb mp (a :: b :: l)) :
    Calls Try.prog 53 #[.pointer (some ⟨rb, 0, none⟩)] w (RdPost N rb mp w (.int .i64 ((256 * a.toNat + b.toNat : Nat) : Int)) l) := by
  have HA := Lib.hid (fun (W : World) (hW : W.heap = w.heap) => walk_byte1 (h.heap hW))
  have HWR := Lib.hid (show wrap64 (wrap64 (256 * (a.toNat : Int)) + (b.toNat : Int)) = ((256 * a.toNat + b.toNat : Nat) : Int) by
    have := a.toNat_lt
    have := b.toNat_lt
    rw [wrap64_small (x := 256 * (a.toNat : Int)) (by omega) (by omega), wrap64_small (by omega) (by omega)]
    omega)
  clear h
  go_enter Try.func53, Try.ntmps53
  go_wp2_with fail
  go_cut [2] (fun s wx => s = .int .i64 ((256 * a.toNat + b.toNat : Nat) : Int) ∧ Hid (Rd N wx rb mp l) ∧ Hid (Only (fun k => k = rb ∨ w.heap.size ≤ k) w wx))
  case first =>
    go_region_held3 (fun w' => True) (first | go_keep | trivial)
      ((first
        | (go_at_call 51; refine (HA.out _ (by rfl)).mono ?_; rintro e w1 ⟨rfl, h1, h2⟩; have hO1 : Only (fun k => k = rb ∨ w.heap.size ≤ k) w w1 := (by first | exact only_undrew h2 | exact h2); have HO1 := Lib.hid hO1; have HB := Lib.hid (fun (W : World) (hW : W.heap = w1.heap) => walk_byte1 (h1.heap hW)); clear h1 h2 hO1 HA)
        | (go_at_call 51; refine (HB.out _ (by rfl)).mono ?_; rintro e w2 ⟨rfl, h1, h2⟩; have hO2 : Only (fun k => k = rb ∨ w1.heap.size ≤ k) w1 w2 := (by first | exact only_undrew h2 | exact h2); have HO2 := Lib.hid (HO1.out.step hO2); have HR := Lib.hid h1; clear h1 h2 hO2 HB)))
    all_goals go_wp2_with fail
    all_goals go_meet
    case rel => exact ⟨congrArg (Value.int .i64) ((show IntKind.i64.wrap (IntKind.i64.wrap (256 * (a.toNat : Int)) + (b.toNat : Int)) = _ from by rw [wrap_i64, wrap_i64]; exact HWR.out)), HR, HO2⟩
  case rest =>
    obtain ⟨rfl, HR, HO⟩ := hcut
    go_wp2_with fail
    go_ret
    exact ⟨rfl, HR.out, HO.out⟩

/-- A way that ends in a panic, handed to a region's walk. -/
theorem panic_way {G : Prop} (h : G) (_ : wpAny Try.prog .any #[] (fun _ _ _ => True) 0 #[] { tmps := #[], defers := [] } default) : G := h

set_option maxRecDepth 100000 in
set_option maxHeartbeats 2000000 in
theorem walk_count_bad {N : Nat} {w : World} {rb : Nat} {mp : Value} {l : List UInt8} (h : Rd N w rb mp l) (hl : l.length < 2) :
    Calls Try.prog 53 #[.pointer (some ⟨rb, 0, none⟩)] w (BadPost rb w) := by
  cases l with
  | nil =>
    have HA := Lib.hid (fun (W : World) (hW : W.heap = w.heap) => walk_byte1_bad (h.heap hW))
    clear h
    go_enter Try.func53, Try.ntmps53
    go_wp2_with fail
    go_region_with ((first
        | (go_at_call 51; refine (HA.out _ (by rfl)).mono ?_; rintro e w1 ⟨rfl, h2⟩; have hO1 : Only (fun k => k = rb ∨ w.heap.size ≤ k) w w1 := (by first | exact only_undrew h2 | exact h2); refine panic_way ⟨rfl, rfl, hO1⟩ ?_)))
    all_goals trivial
  | cons a l =>
    have : l = [] := List.length_eq_zero_iff.1 (by simp at hl; omega)
    subst this
    have HA := Lib.hid (fun (W : World) (hW : W.heap = w.heap) => walk_byte1 (h.heap hW))
    clear h hl
    go_enter Try.func53, Try.ntmps53
    go_wp2_with fail
    go_region_with ((first
        | (go_at_call 51; refine (HA.out _ (by rfl)).mono ?_; rintro e w1 ⟨rfl, h1, h2⟩; have hO1 : Only (fun k => k = rb ∨ w.heap.size ≤ k) w w1 := (by first | exact only_undrew h2 | exact h2); have HO1 := Lib.hid hO1; have HB := Lib.hid (fun (W : World) (hW : W.heap = w1.heap) => walk_byte1_bad (h1.heap hW)); clear h1 h2 hO1 HA)
        | (go_at_call 51; refine (HB.out _ (by rfl)).mono ?_; rintro e w2 ⟨rfl, h2⟩; have hO2 : Only (fun k => k = rb ∨ w1.heap.size ≤ k) w1 w2 := (by first | exact only_undrew h2 | exact h2); refine panic_way ⟨rfl, rfl, HO1.out.step hO2⟩ ?_)))
    all_goals trivial
end Go.Proofs.Ytbfnnlcckpabnaa
