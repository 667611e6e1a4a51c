import Derived.Test.YtbfnnlcckpabnaaGreatOrd
import Derived.Laws.BytesArg
import Derived.Laws.Slices
import Derived.Lib.SlBytesRow
import Derived.Test.YtbfnnlcckpabnaaGreatWk3
import Derived.WalkLawsBesides
import Derived.Deep.RegionHeld3
import Derived.Deep.DeepCutAuto
import Derived.Test.YtbfnnlcckpabnaaGreatImg

/- A slice of bytes in old memory that is taken from at its front. Over any program. -/
namespace Go.Proofs.YtbfnnlcckpabnaaGreat
set_option linter.unusedSimpArgs false
set_option linter.unusedVariables false
open Go.RowKit

/-- v is a slice of the bytes l in blocks below N. -/
def BSlice (N : Nat) (w : World) (v : Value) (l : List UInt8) : Prop :=
  ∃ (a : Option Addr) (cap : Nat), v = .slice a l.length cap ∧ l.length ≤ cap ∧
    ∀ (k : Nat) (hk : k < l.length), ∃ g off, a = some ⟨g, off, none⟩ ∧ g < N ∧ w.cell? ⟨g, off + k, none⟩ = some (.int .u8 (l[k].toNat : Int))

theorem BSlice.of_heap {N : Nat} {w w' : World} {v : Value} {l : List UInt8} (h : BSlice N w v l) (hh : ∀ g, g < N → w'.heap[g]? = w.heap[g]?) : BSlice N w' v l := by
  obtain ⟨a, cap, h1, h2, h3⟩ := h
  refine ⟨a, cap, h1, h2, fun k hk => ?_⟩
  obtain ⟨g, off, h4, h5, h6⟩ := h3 k hk
  exact ⟨g, off, h4, h5, by rw [World.cell?_of_block (w := w) (a := ⟨g, off + k, none⟩) (hh g h5)]; exact h6⟩

theorem BSlice.below {N : Nat} {w w' : World} {v : Value} {l : List UInt8} (h : BSlice N w v l) (hb : Below N w w') : BSlice N w' v l :=
  h.of_heap (fun g hg => hb.block g hg)

theorem size_u8 (W : World) : (sizeOf 5).run Tryz.prog W = .ok 1 W := by kernel_rfl

theorem strOfNums_list (l : List UInt8) : strOfNums (l.map fun x => (x.toNat : Int)) = ⟨l.toArray⟩ := by
  apply ByteArray.ext
  apply Array.toList_inj.1
  rw [show (strOfNums (l.map fun x => (x.toNat : Int))).data.toList = (l.map fun x => (x.toNat : Int)).map (fun n => UInt8.ofNat n.toNat) from by simp [strOfNums], List.map_map]
  conv => rhs; rw [show (⟨l.toArray⟩ : ByteArray).data.toList = l by simp, ← List.map_id l]
  apply List.map_congr_left
  intro x _
  simp

section
variable {P : Program}

/-- Some bytes are taken: the text, the rest. -/
theorem BSlice.take {N : Nat} {w : World} {v : Value} {l : List UInt8} (h : BSlice N w v l) (t e d : TypeId) (ht : P.underlying t = some (.slice e)) (he : P.underlying e = some (.int .u8)) (hd : P.underlying d = some .string) (hs : ∀ W', (sizeOf e).run P W' = .ok 1 W') {n : Nat} (hn : n ≤ l.length) :
    ∃ v1 v2, (∀ W' : World, (Instr.slice t v none (some (.int .i64 (n : Int))) none).run P W' = .ok v1 W') ∧ (∀ W' : World, (Instr.slice t v (some (.int .i64 (n : Int))) none none).run P W' = .ok v2 W') ∧
      (∀ W' : World, (∀ g, g < N → W'.heap[g]? = w.heap[g]?) → (convert t d v1).run P W' = .ok (.string ⟨(l.take n).toArray⟩) W') ∧ BSlice N w v2 (l.drop n) := by
  obtain ⟨a, cap, rfl, h2, h3⟩ := h
  have hc : (n : Int) ≤ (cap : Int) := by omega
  have hl : (n : Int) ≤ (l.length : Int) := by omega
  have hte : P.underlying t = some (.slice (P.elem t)) := by simp [Program.elem, ht]
  have hel : P.elem t = e := by simp [Program.elem, ht]
  have hadd : ∀ {g off j : Nat}, (⟨g, off, none⟩ : Addr).add j = ⟨g, off + j, none⟩ := fun {g off j} => by unfold Addr.add; split <;> simp_all
  refine ⟨.slice a n cap, .slice (if cap = n then a else a.map (·.add n)) (l.length - n) (cap - n), fun W' => ?_, fun W' => ?_, fun W' hW => ?_, ?_⟩
  · rw [run_slice_h W' t a l.length cap hte .i64 n (by omega) hc, hel, hs]
    simp only [Result.andThen, sliced, Int.toNat_natCast, Nat.zero_mul, Nat.sub_zero]
    congr 2
    split
    · rfl
    · cases a with
      | none => rfl
      | some ad => simp [Addr.add]
  · rw [run_slice_l W' t a l.length cap hte .i64 n (by omega) hl, hel, hs]
    simp only [Result.andThen, sliced, Int.toNat_natCast, Nat.mul_one]
  · by_cases h0 : n = 0
    · subst h0
      have hnil : ∀ p c0, (convert t d (.slice p 0 c0)).run P W' = .ok (.string ByteArray.empty) W' := fun p c0 => by
        rw [run_convert_bytes_string W' t d e p 0 c0 ht he hd]
        cases p with
        | none => simp [Conv.bytesToString]
        | some ad =>
          have := run_bytesToString (P := P) W' ad 0 c0 [] (by rfl)
          rw [this]
          rfl
      rw [hnil]
      rfl
    · obtain ⟨g, off, rfl, h4, _⟩ := h3 0 (by omega)
      have := run_convert_bytes_arg (P := P) W' t e ht he g off n cap ((l.take n).map fun x => (x.toNat : Int)) (by simp; omega) (fun i hi => by
        obtain ⟨g', off', e1, h5, h6⟩ := h3 i (by omega)
        cases e1
        rw [World.cell?_of_block (w := w) (a := ⟨g, off + i, none⟩) (hW g h4), h6]
        simp [List.getD, List.getElem?_take_of_lt hi, List.getElem?_eq_getElem (show i < l.length by omega)]) d hd
      rw [this, strOfNums_list]
  · refine ⟨if cap = n then a else a.map (·.add n), cap - n, by simp, by simp; omega, fun k hk => ?_⟩
    simp at hk
    obtain ⟨g, off, rfl, h4, h5⟩ := h3 (n + k) (by omega)
    have hne : cap ≠ n := by omega
    refine ⟨g, off + n, by simp [hne, hadd], h4, ?_⟩
    rw [Nat.add_assoc, h5]
    simp

/-- A window: a text. -/
theorem BSlice.window {N : Nat} {w : World} {v : Value} {l : List UInt8} (h : BSlice N w v l) (t e d : TypeId) (ht : P.underlying t = some (.slice e)) (he : P.underlying e = some (.int .u8)) (hd : P.underlying d = some .string) (hs : ∀ W', (sizeOf e).run P W' = .ok 1 W') {i n : Nat} (hn : i + n ≤ l.length) :
    ∃ (a1 : Option Addr) (c1 : Nat), (∀ W' : World, (Instr.slice t v (some (.int .i64 (i : Int))) (some (.int .i64 ((i + n : Nat) : Int))) none).run P W' = .ok (.slice a1 n c1) W') ∧
      (∀ W' : World, (∀ g, g < N → W'.heap[g]? = w.heap[g]?) → (convert t d (.slice a1 n c1)).run P W' = .ok (.string ⟨((l.drop i).take n).toArray⟩) W') := by
  obtain ⟨a, cap, rfl, h2, h3⟩ := h
  have hte : P.underlying t = some (.slice (P.elem t)) := by simp [Program.elem, ht]
  have hel : P.elem t = e := by simp [Program.elem, ht]
  have hadd : ∀ {g off j : Nat}, (⟨g, off, none⟩ : Addr).add j = ⟨g, off + j, none⟩ := fun {g off j} => by unfold Addr.add; split <;> simp_all
  refine ⟨if cap = i then a else a.map (·.add i), cap - i, fun W' => ?_, fun W' hW => ?_⟩
  · rw [run_slice_lh W' t a l.length cap hte .i64 .i64 i ((i + n : Nat) : Int) (by omega) (by omega) (by omega), hel, hs]
    simp only [Result.andThen, sliced, Int.toNat_natCast, Nat.mul_one]
    rw [show i + n - i = n by omega]
  · by_cases h0 : n = 0
    · subst h0
      have hnil : ∀ p c0, (convert t d (.slice p 0 c0)).run P W' = .ok (.string ByteArray.empty) W' := fun p c0 => by
        rw [run_convert_bytes_string W' t d e p 0 c0 ht he hd]
        cases p with
        | none => simp [Conv.bytesToString]
        | some ad =>
          have := run_bytesToString (P := P) W' ad 0 c0 [] (by rfl)
          rw [this]
          rfl
      rw [hnil]
      rfl
    · obtain ⟨g, off, rfl, h4, _⟩ := h3 i (by omega)
      have hne : cap ≠ i := by omega
      simp only [hne, if_false, Option.map_some, hadd]
      have := run_convert_bytes_arg (P := P) W' t e ht he g (off + i) n (cap - i) (((l.drop i).take n).map fun x => (x.toNat : Int)) (by simp; omega) (fun j hj => by
        obtain ⟨g', off', e1, h5, h6⟩ := h3 (i + j) (by omega)
        cases e1
        rw [World.cell?_of_block (w := w) (a := ⟨g, off + i + j, none⟩) (hW g h4), Nat.add_assoc, h6]
        simp [List.getD, List.getElem?_take_of_lt hj, List.getElem?_eq_getElem (show i + j < l.length by omega)]) d hd
      rw [this, strOfNums_list]
end
end Go.Proofs.YtbfnnlcckpabnaaGreat

/- walk.rest: bytes, byte1; walk.need: taken from an image's front, or a panic. -/
namespace Go.Proofs.YtbfnnlcckpabnaaGreat
set_option linter.unusedSimpArgs false
set_option linter.unusedVariables false
open Go.RowKit

/-- The panic of bytes that are no image. -/
abbrev noImg : List PanicEntry := [{ v := .iface 99 (.agg #[]), recovered := false }]

set_option maxRecDepth 100000 in
theorem walk_need_ok (w : World) : Calls Tryz.prog 70 #[.bool true] w fun e w' => e = .returned (.tuple #[]) ∧ w' = w := by
  go_enter Tryz.func70, Tryz.ntmps70
  go_wp2_with fail
  first | go_end0 | go_ret
  exact ⟨rfl, rfl⟩

set_option maxRecDepth 100000 in
theorem walk_need_bad (w : World) : Calls Tryz.prog 70 #[.bool false] w fun e w' => e = .panicked noImg ∧ w' = w := by
  go_enter Tryz.func70, Tryz.ntmps70
  go_wp2_with fail
  exact ⟨rfl, rfl, rfl⟩

/-- The reader of an image in block rb: the bytes that are left, the map. -/
def Rd (N : Nat) (w : World) (rb : Nat) (mp : Value) (l : List UInt8) : Prop :=
  ∃ v, w.heap[rb]? = some (.cells #[v, mp] 105 (0, 0)) ∧ N ≤ rb ∧ BSlice N w v l

theorem Rd.only {N : Nat} {w w' : World} {rb : Nat} {mp : Value} {l : List UInt8} (h : Rd N w rb mp l) {B : Nat → Prop} (hb : Only B w w') (h1 : ¬ B rb) (h2 : ∀ k, k < N → ¬ B k) : Rd N w' rb mp l := by
  obtain ⟨v, h3, h4, h5⟩ := h
  exact ⟨v, (hb.block rb h1).trans h3, h4, h5.of_heap fun g hg => hb.block g (h2 g hg)⟩

theorem Rd.lt {N : Nat} {w : World} {rb : Nat} {mp : Value} {l : List UInt8} (h : Rd N w rb mp l) : N ≤ rb ∧ rb < w.heap.size := by
  obtain ⟨v, h3, h4, h5⟩ := h
  exact ⟨h4, (Array.getElem?_eq_some_iff.1 h3).1⟩

theorem Rd.below {N : Nat} {w w' : World} {rb : Nat} {mp : Value} {l : List UInt8} (h : Rd N w rb mp l) (hb : Below w.heap.size w w') : Rd N w' rb mp l := by
  have hlt := h.lt
  obtain ⟨v, h3, h4, h5⟩ := h
  exact ⟨v, (hb.block rb hlt.2).trans h3, h4, h5.of_heap fun g hg => hb.block g (by omega)⟩

/-- Some of it was read. -/
def RdPost (N rb : Nat) (mp : Value) (w : World) (r : Value) (l : List UInt8) (e : Ending) (w' : World) : Prop :=
  e = .returned r ∧ Rd N w' rb mp l ∧ Only (fun k => k = rb ∨ w.heap.size ≤ k) w w'
/-- It is no image. -/
def BadPost (rb : Nat) (w : World) (e : Ending) (w' : World) : Prop := e = .panicked noImg ∧ Only (fun k => k = rb ∨ w.heap.size ≤ k) w w'



set_option maxRecDepth 100000 in
set_option maxHeartbeats 1000000 in
theorem walk_bytes {N : Nat} {w : World} {rb : Nat} {mp : Value} {l : List UInt8} (h : Rd N w rb mp l) {n : Nat} (hn : n ≤ l.length) :
    Calls Tryz.prog 73 #[.pointer (some ⟨rb, 0, none⟩), .int .i64 n] w (RdPost N rb mp w (str (l.take n)) (l.drop n)) := by
  obtain ⟨v, hr, hN, hb⟩ := h
  obtain ⟨v1, v2, h1, h2, h3, h4⟩ := hb.take (P := Tryz.prog) 42 5 9 Tryz.underlying42 Tryz.underlying5 Tryz.underlying9 size_u8 hn
  obtain ⟨a, cap, rfl, hcap, hcells⟩ := hb
  have c0 := cell_of_heap hr 0
  have f0 := free_of_heap hr 0
  simp at c0
  have h5 := h3 w (fun _ _ => rfl)
  obtain ⟨a2, cap2, e2, _, _⟩ := id h4
  rw [List.length_drop] at e2
  subst e2
  have H4 := Lib.hid h4
  clear h3 hcells h4
  have HR := Lib.hid hr; clear hr
  have HN := Lib.hid hN; clear hN
  have g : ¬ l.length < n := by omega
  clear hn hcap
  unfold str
  go_enter Tryz.func73, Tryz.ntmps73
  go_wp2_with fail
  go_ret
  refine ⟨rfl, ⟨_, heap_setCell_same _ _ _ _ _ _ HR.out, HN.out, H4.out.of_heap fun g hg => ?_⟩, (Only.refl _ w).setCell (p := ⟨rb, 0, none⟩) (.inl rfl) _⟩
  exact ((Only.refl (fun k => k = rb) w).setCell (p := ⟨rb, 0, none⟩) rfl _).block g (by have := HN.out; omega)

set_option maxRecDepth 100000 in
set_option maxHeartbeats 1000000 in
theorem walk_bytes_bad {N : Nat} {w : World} {rb : Nat} {mp : Value} {l : List UInt8} (h : Rd N w rb mp l) {n : Nat} (hn : l.length < n) :
    Calls Tryz.prog 73 #[.pointer (some ⟨rb, 0, none⟩), .int .i64 n] w (BadPost rb w) := by
  obtain ⟨v, hr, hN, hb⟩ := h
  obtain ⟨a, cap, rfl, hcap, hcells⟩ := hb
  have c0 := cell_of_heap hr 0
  simp at c0
  clear hcells
  have HR := Lib.hid hr; clear hr
  have HN := Lib.hid hN; clear hN
  clear hcap
  go_enter Tryz.func73, Tryz.ntmps73
  go_wp2_with fail
  exact ⟨rfl, rfl, Only.refl _ _⟩

set_option maxRecDepth 100000 in
set_option maxHeartbeats 1000000 in
theorem walk_byte1 {N : Nat} {w : World} {rb : Nat} {mp : Value} {c : UInt8} {l : List UInt8} (h : Rd N w rb mp (c :: l)) :
    Calls Tryz.prog 69 #[.pointer (some ⟨rb, 0, none⟩)] w (RdPost N rb mp w (.int .i64 c.toNat) l) := by
  have HB := Lib.hid (walk_bytes h (n := 1) (by simp))
  clear h
  have HWR := Lib.hid (wrap64_small (x := (c.toNat : Int)) (by omega) (by have := c.toNat_lt; omega))
  have hix : ∀ W' : World, (Instr.index 9 (.string ⟨#[c]⟩) (.int .i64 0)).run Tryz.prog W' = .ok (.int .u8 c.toNat) W' := fun W' => run_index_str [c] 0 c rfl W'
  go_enter Tryz.func69, Tryz.ntmps69
  go_wp2_with fail
  refine HB.out.mono ?_
  rintro e w1 ⟨rfl, h1, h2⟩
  have H1 := Lib.hid h1; have H2 := Lib.hid h2
  clear HB h1 h2
  unfold str
  go_wp2_with fail
  go_ret
  refine ⟨?_, H1.out, H2.out⟩
  show Ending.returned (.int .i64 (wrap64 (c.toNat : Int))) = _
  rw [HWR.out]

set_option maxRecDepth 100000 in
set_option maxHeartbeats 1000000 in
theorem walk_byte1_bad {N : Nat} {w : World} {rb : Nat} {mp : Value} (h : Rd N w rb mp []) :
    Calls Tryz.prog 69 #[.pointer (some ⟨rb, 0, none⟩)] w (BadPost rb w) := by
  have HB := Lib.hid (walk_bytes_bad h (n := 1) (by simp))
  clear h
  go_enter Tryz.func69, Tryz.ntmps69
  go_wp2_with fail
  refine HB.out.mono ?_
  rintro e w1 ⟨rfl, h2⟩
  have H2 := Lib.hid h2
  clear HB h2
  exact ⟨rfl, rfl, H2.out⟩
end Go.Proofs.YtbfnnlcckpabnaaGreat

/- walk.reader: count, tile; walk.ordered. -/
namespace Go.Proofs.YtbfnnlcckpabnaaGreat
set_option linter.unusedSimpArgs false
set_option linter.unusedVariables false
open Go.RowKit

theorem Rd.heap {N : Nat} {w w' : World} {rb : Nat} {mp : Value} {l : List UInt8} (h : Rd N w rb mp l) (hh : w'.heap = w.heap) : Rd N w' rb mp l := by
  obtain ⟨v, h3, h4, h5⟩ := h
  exact ⟨v, by rw [hh]; exact h3, h4, h5.of_heap fun g hg => by rw [hh]⟩

theorem wrap_i64 (x : Int) : IntKind.i64.wrap x = wrap64 x := by rw [IntKind.wrap_i64]; unfold wrap64; rfl

theorem only_undrew {B : Nat → Prop} {w w' : World} (h : Only B w.drew w') : Only B w w' := ⟨h.os, h.tape, h.output, h.size, h.block⟩

theorem Only.step {rb : Nat} {w w1 w2 : World} (h1 : Only (fun k => k = rb ∨ w.heap.size ≤ k) w w1) (h2 : Only (fun k => k = rb ∨ w1.heap.size ≤ k) w1 w2) : Only (fun k => k = rb ∨ w.heap.size ≤ k) w w2 :=
  h1.trans (h2.mono fun k hk => hk.imp id fun h => Nat.le_trans h1.size h)

set_option maxRecDepth 100000 in
set_option maxHeartbeats 2000000 in
theorem walk_count {N : Nat} {w : World} {rb : Nat} {mp : Value} {a b : UInt8} {l : List UInt8} (h : Rd N w rb mp (a :: b :: l)) :
    Calls Tryz.prog 71 #[.pointer (some ⟨rb, 0, none⟩)] w (RdPost N rb mp w (.int .i64 ((256 * a.toNat + b.toNat : Nat) : Int)) l) := by
  have HA := Lib.hid (fun (W : World) (hW : W.heap = w.heap) => walk_byte1 (h.heap hW))
  have HWR := Lib.hid (show wrap64 (wrap64 (256 * (a.toNat : Int)) + (b.toNat : Int)) = ((256 * a.toNat + b.toNat : Nat) : Int) by
    have := a.toNat_lt
    have := b.toNat_lt
    rw [wrap64_small (x := 256 * (a.toNat : Int)) (by omega) (by omega), wrap64_small (by omega) (by omega)]
    omega)
  clear h
  go_enter Tryz.func71, Tryz.ntmps71
  go_wp2_with fail
  go_cut [2] (fun s wx => s = .int .i64 ((256 * a.toNat + b.toNat : Nat) : Int) ∧ Hid (Rd N wx rb mp l) ∧ Hid (Only (fun k => k = rb ∨ w.heap.size ≤ k) w wx))
  case first =>
    go_region_held3 (fun w' => True) (first | go_keep | trivial)
      ((first
        | (go_at_call 69; refine (HA.out _ (by rfl)).mono ?_; rintro e w1 ⟨rfl, h1, h2⟩; have hO1 : Only (fun k => k = rb ∨ w.heap.size ≤ k) w w1 := (by first | exact only_undrew h2 | exact h2); have HO1 := Lib.hid hO1; have HB := Lib.hid (fun (W : World) (hW : W.heap = w1.heap) => walk_byte1 (h1.heap hW)); clear h1 h2 hO1 HA)
        | (go_at_call 69; refine (HB.out _ (by rfl)).mono ?_; rintro e w2 ⟨rfl, h1, h2⟩; have hO2 : Only (fun k => k = rb ∨ w1.heap.size ≤ k) w1 w2 := (by first | exact only_undrew h2 | exact h2); have HO2 := Lib.hid (HO1.out.step hO2); have HR := Lib.hid h1; clear h1 h2 hO2 HB)))
    all_goals go_wp2_with fail
    all_goals go_meet
    case rel => exact ⟨congrArg (Value.int .i64) ((show IntKind.i64.wrap (IntKind.i64.wrap (256 * (a.toNat : Int)) + (b.toNat : Int)) = _ from by rw [wrap_i64, wrap_i64]; exact HWR.out)), HR, HO2⟩
  case rest =>
    obtain ⟨rfl, HR, HO⟩ := hcut
    go_wp2_with fail
    go_ret
    exact ⟨rfl, HR.out, HO.out⟩

/-- A way that ends in a panic, handed to a region's walk. -/
theorem panic_way {G : Prop} (h : G) (_ : wpAny Tryz.prog .any #[] (fun _ _ _ => True) 0 #[] { tmps := #[], defers := [] } default) : G := h

set_option maxRecDepth 100000 in
set_option maxHeartbeats 2000000 in
theorem walk_count_bad {N : Nat} {w : World} {rb : Nat} {mp : Value} {l : List UInt8} (h : Rd N w rb mp l) (hl : l.length < 2) :
    Calls Tryz.prog 71 #[.pointer (some ⟨rb, 0, none⟩)] w (BadPost rb w) := by
  cases l with
  | nil =>
    have HA := Lib.hid (fun (W : World) (hW : W.heap = w.heap) => walk_byte1_bad (h.heap hW))
    clear h
    go_enter Tryz.func71, Tryz.ntmps71
    go_wp2_with fail
    go_region_with ((first
        | (go_at_call 69; refine (HA.out _ (by rfl)).mono ?_; rintro e w1 ⟨rfl, h2⟩; have hO1 : Only (fun k => k = rb ∨ w.heap.size ≤ k) w w1 := (by first | exact only_undrew h2 | exact h2); refine panic_way ⟨rfl, rfl, hO1⟩ ?_)))
    all_goals trivial
  | cons a l =>
    have : l = [] := List.length_eq_zero_iff.1 (by simp at hl; omega)
    subst this
    have HA := Lib.hid (fun (W : World) (hW : W.heap = w.heap) => walk_byte1 (h.heap hW))
    clear h hl
    go_enter Tryz.func71, Tryz.ntmps71
    go_wp2_with fail
    go_region_with ((first
        | (go_at_call 69; refine (HA.out _ (by rfl)).mono ?_; rintro e w1 ⟨rfl, h1, h2⟩; have hO1 : Only (fun k => k = rb ∨ w.heap.size ≤ k) w w1 := (by first | exact only_undrew h2 | exact h2); have HO1 := Lib.hid hO1; have HB := Lib.hid (fun (W : World) (hW : W.heap = w1.heap) => walk_byte1_bad (h1.heap hW)); clear h1 h2 hO1 HA)
        | (go_at_call 69; refine (HB.out _ (by rfl)).mono ?_; rintro e w2 ⟨rfl, h2⟩; have hO2 : Only (fun k => k = rb ∨ w1.heap.size ≤ k) w1 w2 := (by first | exact only_undrew h2 | exact h2); refine panic_way ⟨rfl, rfl, HO1.out.step hO2⟩ ?_)))
    all_goals trivial
end Go.Proofs.YtbfnnlcckpabnaaGreat

/- walk.reader: tile. -/
namespace Go.Proofs.YtbfnnlcckpabnaaGreat
set_option linter.unusedSimpArgs false
set_option linter.unusedVariables false
open Go.RowKit

theorem takeText_iff {l t r : List UInt8} (h : takeText l = some (t, r)) : ∃ c l', l = c :: l' ∧ c.toNat ≤ l'.length ∧ t = l'.take c.toNat ∧ r = l'.drop c.toNat := by
  cases l with
  | nil => cases h
  | cons c l =>
    have h' : (if l.length < c.toNat then none else some (l.take c.toNat, l.drop c.toNat)) = some (t, r) := h
    by_cases hc : l.length < c.toNat
    · rw [if_pos hc] at h'; cases h'
    · rw [if_neg hc] at h'
      have e1 : l.take c.toNat = t := congrArg Prod.fst (Option.some.inj h')
      have e2 : l.drop c.toNat = r := congrArg Prod.snd (Option.some.inj h')
      exact ⟨c, l, rfl, by omega, e1.symm, e2.symm⟩

theorem takeText_none {l : List UInt8} (h : takeText l = none) : l = [] ∨ ∃ c l', l = c :: l' ∧ l'.length < c.toNat := by
  cases l with
  | nil => exact .inl rfl
  | cons c l =>
    have h' : (if l.length < c.toNat then none else some (l.take c.toNat, l.drop c.toNat)) = none := h
    by_cases hc : l.length < c.toNat
    · exact .inr ⟨c, l, rfl, hc⟩
    · rw [if_neg hc] at h'; cases h'

/-- The map that is being read. -/
abbrev mptr (mb : Nat) : Value := .pointer (some ⟨mb, 0, none⟩)

theorem takeTile_none {o : Hy.Ord} {l : List UInt8} (h : takeTile o l = none) : takeText l = none ∨ ∃ t r, takeText l = some (t, r) ∧ ¬ (Hy.wordErr t = 0 ∧ Hy.norm o 1000 t = some t) := by
  unfold takeTile at h
  cases ht : takeText l with
  | none => exact .inl rfl
  | some p =>
    obtain ⟨w', r'⟩ := p
    rw [ht] at h
    simp only at h
    split at h
    · cases h
    · rename_i hc
      exact .inr ⟨w', r', rfl, hc⟩

/-- The word that a tile is held against, and whether it is it. -/
theorem norm_of {o : Hy.Ord} (F : Hy.Fine o) (t : List UInt8) : ∃ nf e : _, Hy.wordErr t = e ∧ (e = 0 → Hy.norm o 1000 t = some nf) ∧ ((Hy.wordErr t = 0 ∧ Hy.norm o 1000 t = some t) ↔ (e = 0 ∧ nf = t)) := by
  by_cases he : Hy.wordErr t = 0
  · obtain ⟨n, h1, _⟩ := Hy.norm_ok F (fuel := 1000) (lets_of_err he) (by have := (Hy.wordErr_letters he).2; omega) (by have := (Hy.wordErr_letters he).2; omega)
    refine ⟨n, 0, he, fun _ => h1, ?_⟩
    rw [h1]
    simp [he]
  · exact ⟨[], _, rfl, fun h => absurd h he, by simp [he]⟩

/-- A tile was read: a normal word, or no image. -/
def TilePost (N rb mb : Nat) (w : World) (o : Hy.Ord) (t r : List UInt8) (e : Ending) (w' : World) : Prop :=
  if Hy.wordErr t = 0 ∧ Hy.norm o 1000 t = some t then RdPost N rb (mptr mb) w (str t) r e w' else BadPost rb w e w'

set_option maxRecDepth 100000 in
set_option maxHeartbeats 2000000 in
theorem walk_tile {N : Nat} {w : World} {rb mb wb tb : Nat} {o : Hy.Ord} {l : List UInt8} (F : Hy.Fine o) (ho : Small o) (hok : Hy.ordErr o.m01 o.m12 o.m02 = 0) (h : Rd N w rb (mptr mb) l) (hm : w.heap[mb]? = some (.cells (mapCells o wb tb) 57 (0, 0))) (hne : mb ≠ rb) {t r : List UInt8} (ht : takeText l = some (t, r)) :
    Calls Tryz.prog 72 #[.pointer (some ⟨rb, 0, none⟩)] w (TilePost N rb mb w o t r) := by
  obtain ⟨c, l', rfl, hc, rfl, rfl⟩ := takeText_iff ht
  have HA := Lib.hid (fun (W : World) (hW : W.heap = w.heap) => walk_byte1 (h.heap hW))
  have hmlt := (Array.getElem?_eq_some_iff.1 hm).1
  have hlen : (l'.take c.toNat).length ≤ 255 := by have := c.toNat_lt; simp; omega
  obtain ⟨nf, er, he, hnf, hiff⟩ := norm_of F (l'.take c.toNat)
  have hall : Hy.allErr o.m01 o.m12 o.m02 [l'.take c.toNat] = er := by rw [Hy.allErr_ok hok, Hy.wordsErr_one, he]
  have HNORM := Lib.hid (fun (W : World) => words_Normal o.m01 o.m12 o.m02 (l'.take c.toNat) W (by omega) 1000 nf (fun h0 => by rw [hall] at h0; exact hnf h0))
  rw [hall] at HNORM
  have HIFF := Lib.hid hiff
  have HM := Lib.hid hm
  generalize hT : l'.take c.toNat = T at *
  generalize hR : l'.drop c.toNat = R at *
  have HT := Lib.hid hT; have HR0 := Lib.hid hR
  have HC := Lib.hid hc
  clear h hm he hnf hall hiff hT hR hc
  unfold ordersV str at *
  go_enter Tryz.func72, Tryz.ntmps72
  go_wp2_with fail
  go_cut [3] (fun s wx => s = .string ⟨T.toArray⟩ ∧ Hid (Rd N wx rb (mptr mb) R) ∧ Hid (Only (fun k => k = rb ∨ w.heap.size ≤ k) w wx))
  case first =>
    go_region_held3 (fun w' => True) (first | go_keep | trivial)
      ((first
        | (go_at_call 69; refine (HA.out _ (by rfl)).mono ?_; rintro e w1 ⟨rfl, h1, h2⟩; have hO1 : Only (fun k => k = rb ∨ w.heap.size ≤ k) w w1 := (by first | exact only_undrew h2 | exact h2); have HO1 := Lib.hid hO1; have HB := Lib.hid (fun (W : World) (hW : W.heap = w1.heap) => walk_bytes (h1.heap hW) HC.out); clear h1 h2 hO1 HA; rw [HT.out, HR0.out] at HB; unfold str at HB)
        | (go_at_call 73; refine (HB.out _ (by rfl)).mono ?_; rintro e w2 ⟨rfl, h1, h2⟩; have hO2 : Only (fun k => k = rb ∨ w1.heap.size ≤ k) w1 w2 := (by first | exact only_undrew h2 | exact h2); have HO2 := Lib.hid (HO1.out.step hO2); have HR := Lib.hid h1; clear h1 h2 hO2 HB)))
    all_goals go_wp2_with fail
    all_goals go_meet
    case rel => exact ⟨rfl, HR, HO2⟩
  case rest =>
    obtain ⟨rfl, HR, HO⟩ := hcut
    have hm1 := (HO.out.block mb (by rintro (h | h) <;> omega)).trans HM.out
    have q0 := cell_of_heap hm1 0
    have q1 := cell_of_heap hm1 1
    have q2 := cell_of_heap hm1 2
    obtain ⟨v, hv1, hv2, hv3⟩ := HR.out
    have q3 := cell_of_heap hv1 1
    simp [mapCells, mptr] at q0 q1 q2 q3
    clear hv1 hv2 hv3 hm1
    go_wp2_with fail
    refine (HNORM.out _).mono ?_
    rintro e w3 ⟨rfl, hB3⟩
    have HR3 := Lib.hid (HR.out.below hB3)
    have HO3 := Lib.hid (HO.out.trans (Only.of_below hB3 (fun k hk => .inr (Nat.le_trans HO.out.size hk))))
    clear hB3 q0 q1 q2 q3
    have HNO := Lib.hid (fun W => walk_need_ok W)
    have HNB := Lib.hid (fun W => walk_need_bad W)
    by_cases he : er = 0
    · subst he
      rw [if_pos rfl]
      by_cases hn : nf = T
      · subst hn
        have HOK := Lib.hid (HIFF.out.2 ⟨rfl, rfl⟩)
        clear HIFF
        go_wp2_with fail
        refine (HNO.out _).mono ?_
        rintro e w4 ⟨rfl, rfl⟩
        go_wp2_with fail
        go_ret
        unfold TilePost
        rw [if_pos HOK.out]
        exact ⟨rfl, HR3.out, HO3.out⟩
      · have HN := Lib.hid (fun h => hn (HIFF.out.1 h).2)
        have g1 : ((⟨nf.toArray⟩ : ByteArray) == ⟨T.toArray⟩) = false := by rw [bytes_beq, beq_eq_false_iff_ne]; exact hn
        have g2 : (nf == T) = false := by rw [beq_eq_false_iff_ne]; exact hn
        have g3 : ¬ ((⟨nf.toArray⟩ : ByteArray) = ⟨T.toArray⟩) := fun h => hn (by have := congrArg ByteArray.data h; simpa using this)
        clear hn
        go_wp2_with fail
        refine (HNB.out _).mono ?_
        rintro e w4 ⟨rfl, rfl⟩
        refine ⟨rfl, ?_⟩
        unfold TilePost
        rw [if_neg HN.out]
        exact ⟨rfl, HO3.out⟩
    · have HN := Lib.hid (fun h => he (HIFF.out.1 h).1)
      rw [if_neg he]
      have g1 : (er == 0) = false := by rw [beq_eq_false_iff_ne]; exact he
      clear he
      go_wp2_with fail
      refine (HNB.out _).mono ?_
      rintro e w4 ⟨rfl, rfl⟩
      refine ⟨rfl, ?_⟩
      unfold TilePost
      rw [if_neg HN.out]
      exact ⟨rfl, HO3.out⟩

set_option maxRecDepth 100000 in
set_option maxHeartbeats 2000000 in
theorem walk_tile_bad {N : Nat} {w : World} {rb : Nat} {mp : Value} {l : List UInt8} (h : Rd N w rb mp l) (ht : takeText l = none) :
    Calls Tryz.prog 72 #[.pointer (some ⟨rb, 0, none⟩)] w (BadPost rb w) := by
  rcases takeText_none ht with rfl | ⟨c, l', rfl, hc⟩
  · have HA := Lib.hid (fun (W : World) (hW : W.heap = w.heap) => walk_byte1_bad (h.heap hW))
    clear h ht
    go_enter Tryz.func72, Tryz.ntmps72
    go_wp2_with fail
    go_region_with ((first
        | (go_at_call 69; refine (HA.out _ (by rfl)).mono ?_; rintro e w1 ⟨rfl, h2⟩; have hO1 : Only (fun k => k = rb ∨ w.heap.size ≤ k) w w1 := (by first | exact only_undrew h2 | exact h2); refine panic_way ⟨rfl, rfl, hO1⟩ ?_)))
    all_goals trivial
  · have HA := Lib.hid (fun (W : World) (hW : W.heap = w.heap) => walk_byte1 (h.heap hW))
    have HC := Lib.hid hc
    clear h ht hc
    go_enter Tryz.func72, Tryz.ntmps72
    go_wp2_with fail
    go_region_with ((first
        | (go_at_call 69; refine (HA.out _ (by rfl)).mono ?_; rintro e w1 ⟨rfl, h1, h2⟩; have hO1 : Only (fun k => k = rb ∨ w.heap.size ≤ k) w w1 := (by first | exact only_undrew h2 | exact h2); have HO1 := Lib.hid hO1; have HB := Lib.hid (fun (W : World) (hW : W.heap = w1.heap) => walk_bytes_bad (h1.heap hW) HC.out); clear h1 h2 hO1 HA)
        | (go_at_call 73; refine (HB.out _ (by rfl)).mono ?_; rintro e w2 ⟨rfl, h2⟩; have hO2 : Only (fun k => k = rb ∨ w1.heap.size ≤ k) w1 w2 := (by first | exact only_undrew h2 | exact h2); refine panic_way ⟨rfl, rfl, HO1.out.step hO2⟩ ?_)))
    all_goals trivial
end Go.Proofs.YtbfnnlcckpabnaaGreat

/- walk.ordered: the order of walls. -/
namespace Go.Proofs.YtbfnnlcckpabnaaGreat
set_option linter.unusedSimpArgs false
set_option linter.unusedVariables false
open Go.RowKit

set_option maxRecDepth 100000 in
set_option maxHeartbeats 1000000 in
theorem cmp_Or_two (w : World) (g : Nat) (x y : Int) (h0 : w.cell? ⟨g, 0, none⟩ = some (.int .i64 x)) (h1 : w.cell? ⟨g, 1, none⟩ = some (.int .i64 y)) :
    Calls Tryz.prog 87 #[.slice (some ⟨g, 0, none⟩) 2 2] w fun e w' => e = .returned (.int .i64 (if x ≠ 0 then x else y)) ∧ w = w' := by
  obtain ⟨z, hz⟩ : ∃ z, z = (if x ≠ 0 then x else y) := ⟨_, rfl⟩
  rw [← hz]
  have HZ := Lib.hid hz
  clear hz
  go_enter Tryz.func87, Tryz.ntmps87
  go_wp2_with fail
  go_loop [8] (fun i => ∃ k : Nat, k ≤ 2 ∧ i = .int .i64 k ∧ Hid (0 < k → x = 0) ∧ Hid (1 < k → y = 0)) (fun i => 2 - (intOf i).toNat)
  case atStart => exact ⟨0, by omega, rfl, fun h => absurd h (by omega), fun h => absurd h (by omega)⟩
  case round =>
    obtain ⟨k, hk, rfl, HK, HK2⟩ := hrel
    obtain rfl | rfl | rfl : k = 0 ∨ k = 1 ∨ k = 2 := by omega
    · by_cases hx : x = 0
      · have HX := Lib.hid (fun (_ : 0 < 1) => hx)
        have g1 : (x != 0) = false := by rw [bne_eq_false_iff_eq]; exact hx
        clear hx
        go_wp2_with fail
        go_round
        case rel => exact ⟨1, by omega, by go_num, HX.out, fun h => absurd h (by omega)⟩
        case measure => simp [intOf]
      · have HX := Lib.hid hx
        have g1 : (x != 0) = true := by rw [bne_iff_ne]; exact hx
        clear hx
        go_wp2_with fail
        go_ret
        exact ⟨by rw [HZ.out, if_pos HX.out]; rfl, rfl⟩
    · have hx := HK.out (by omega)
      have HX := Lib.hid hx
      by_cases hy : y = 0
      · have HY := Lib.hid (fun (_ : 1 < 2) => hy)
        have g1 : (y != 0) = false := by rw [bne_eq_false_iff_eq]; exact hy
        clear hy hx
        go_wp2_with fail
        go_round
        case rel => exact ⟨2, by omega, by go_num, fun _ => HX.out, HY.out⟩
        case measure => simp [intOf]
      · have g1 : (y != 0) = true := by rw [bne_iff_ne]; exact hy
        clear hx hy
        go_wp2_with fail
        go_ret
        exact ⟨by rw [HZ.out, if_neg (by rw [HX.out]; simp)]; rfl, rfl⟩
    · have HX := Lib.hid (HK.out (by omega))
      have HY := Lib.hid (HK2.out (by omega))
      go_wp2_with fail
      go_ret
      exact ⟨by rw [HZ.out, if_neg (by rw [HX.out]; simp), HY.out]; rfl, rfl⟩

set_option maxRecDepth 100000 in
set_option maxHeartbeats 2000000 in
theorem walk_ordered (a b : List UInt8 × Int) (w : World) (ha : a.1.length ≤ 140737488355328) (hb : b.1.length ≤ 140737488355328) :
    Calls Tryz.prog 65 #[encEdge a, encEdge b] w fun e w' => e = .returned (.int .i64 (cmpE a b)) ∧ Below w.heap.size w w' := by
  obtain ⟨at', am⟩ := a
  obtain ⟨bt, bm⟩ := b
  have HF := Lib.hid (fun W => walk_first at' bt W ha hb)
  have HC := Lib.hid (fun W => cmp_Compare_int am bm W)
  have hE : cmpE (at', am) (bt, bm) = if Hy.cmpW at' bt ≠ 0 then Hy.cmpW at' bt else if am < bm then -1 else if bm < am then 1 else 0 := rfl
  rw [hE]
  clear hE ha hb
  generalize Hy.cmpW at' bt = x at *
  generalize (if am < bm then (-1 : Int) else if bm < am then 1 else 0) = y at *
  obtain ⟨z, hz⟩ : ∃ z, z = (if x ≠ 0 then x else y) := ⟨_, rfl⟩
  have HOR := Lib.hid (fun W g => cmp_Or_two W g x y)
  rw [← hz]
  simp only [← hz] at HOR
  clear hz
  unfold encEdge str at *
  go_enter Tryz.func65, Tryz.ntmps65
  go_wp2_with fail
  obtain ⟨W0, hW0⟩ : ∃ W0, ((w.alloc (.cells #[.string ⟨at'.toArray⟩, .int .i64 am] 64)).alloc (.cells #[.string ⟨bt.toArray⟩, .int .i64 bm] 64)) = W0 := ⟨_, rfl⟩
  have h0 : W0.heap[w.heap.size]? = some (.cells #[.string ⟨at'.toArray⟩, .int .i64 am] 64 (0, 0)) := by
    rw [← hW0, heap_alloc_lt _ _ (by simp)]
    exact alloc_heap_new w _
  have h1 : W0.heap[w.heap.size + 1]? = some (.cells #[.string ⟨bt.toArray⟩, .int .i64 bm] 64 (0, 0)) := by
    rw [← hW0]
    have h := alloc_heap_new (w.alloc (.cells #[.string ⟨at'.toArray⟩, .int .i64 am] 64)) (.cells #[.string ⟨bt.toArray⟩, .int .i64 bm] 64)
    rwa [World.size_alloc] at h
  have hB0 : Below w.heap.size w W0 := by rw [← hW0]; exact ((Below.refl _ _).alloc (Nat.le_refl _) _).alloc (by simp) _
  have hs0 : W0.heap.size = w.heap.size + 2 := by rw [← hW0]; simp
  rw [hW0]
  clear hW0
  have q0 := cell_of_heap h0 0
  have q1 := cell_of_heap h0 1
  have q2 := cell_of_heap h1 0
  have q3 := cell_of_heap h1 1
  simp at q0 q1 q2 q3
  have HB0 := Lib.hid hB0
  clear h0 h1 hB0
  go_cut [4] (fun s wx => s = .int .i64 z ∧ Hid (Below w.heap.size w wx))
  case first =>
    go_region_held3 (fun w' => w'.cell? ⟨w.heap.size, 0, none⟩ = some (.string ⟨at'.toArray⟩) ∧ w'.cell? ⟨w.heap.size, 1, none⟩ = some (.int .i64 am) ∧ w'.cell? ⟨w.heap.size + 1, 0, none⟩ = some (.string ⟨bt.toArray⟩) ∧ w'.cell? ⟨w.heap.size + 1, 1, none⟩ = some (.int .i64 bm))
      (first | go_keep | (with_reducible (exact ⟨q0, q1, q2, q3⟩)))
      ((first
        | (go_at_call 56; refine (HF.out _).mono ?_; rintro e w3 ⟨rfl, rfl⟩)
        | (go_at_call 80; refine (HC.out _).mono ?_; rintro e w3 ⟨rfl, rfl⟩)
        | (go_at_call 87; refine (HOR.out _ _ (by go_simp) (by go_simp)).mono ?_; rintro e w3 ⟨rfl, rfl⟩)))
    all_goals go_wp2_with fail
    all_goals go_meet
    case rel => exact ⟨rfl, (HB0.out.alloc HB0.out.size _).drew⟩
  case rest =>
    obtain ⟨rfl, HB⟩ := hcut
    go_wp2_with fail
    go_ret
    exact ⟨rfl, HB.out⟩
end Go.Proofs.YtbfnnlcckpabnaaGreat
