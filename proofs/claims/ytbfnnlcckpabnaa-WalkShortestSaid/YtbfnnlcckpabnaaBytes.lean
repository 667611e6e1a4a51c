/- A slice of bytes in old memory that is taken from at its front. Over any program. -/
import Derived.Test.YtbfnnlcckpabnaaGrow
import Derived.Laws.BytesArg
import Derived.Laws.Slices
import Derived.Lib.SlBytesRow
namespace Go.Proofs.Ytbfnnlcckpabnaa
set_option linter.unusedSimpArgs false
set_option linter.unusedVariables false
open Go.RowKit

/-- v is a slice of the bytes l in blocks below N. -/
def BSlice (N : Nat) (w : World) (v : Value) (l : List UInt8) : Prop :=
  ∃ (a : Option Addr) (cap : Nat), v = .slice a l.length cap ∧ l.length ≤ cap ∧
    ∀ (k : Nat) (hk : k < l.length), ∃ g off, a = some ⟨g, off, none⟩ ∧ g < N ∧ w.cell? ⟨g, off + k, none⟩ = some (.int .u8 (l[k].toNat : Int))

theorem BSlice.of_heap {N : Nat} {w w' : World} {v : Value} {l : List UInt8} (h : BSlice N w v l) (hh : ∀ g, g < N → w'.heap[g]? = w.heap[g]?) : BSlice N w' v l := by
  obtain ⟨a, cap, h1, h2, h3⟩ := h
  refine ⟨a, cap, h1, h2, fun k hk => ?_⟩
  obtain ⟨g, off, h4, h5, h6⟩ := h3 k hk
  exact ⟨g, off, h4, h5, by rw [World.cell?_of_block (w := w) (a := ⟨g, off + k, none⟩) (hh g h5)]; exact h6⟩

theorem BSlice.below {N : Nat} {w w' : World} {v : Value} {l : List UInt8} (h : BSlice N w v l) (hb : Below N w w') : BSlice N w' v l :=
  h.of_heap (fun g hg => hb.block g hg)

theorem size_u8 (W : World) : (sizeOf 5).run Try.prog W = .ok 1 W := by kernel_rfl

theorem strOfNums_list (l : List UInt8) : strOfNums (l.map fun x => (x.toNat : Int)) = ⟨l.toArray⟩ := by
  apply ByteArray.ext
  apply Array.toList_inj.1
  rw [show (strOfNums (l.map fun x => (x.toNat : Int))).data.toList = (l.map fun x => (x.toNat : Int)).map (fun n => UInt8.ofNat n.toNat) from by simp [strOfNums], List.map_map]
  conv => rhs; rw [show (⟨l.toArray⟩ : ByteArray).data.toList = l by simp, ← List.map_id l]
  apply List.map_congr_left
  intro x _
  simp

section
variable {P : Program}

/-- Some bytes are taken: the text, the rest. -/
theorem BSlice.take {N : Nat} {w : World} {v : Value} {l : List UInt8} (h : BSlice N w v l) (t e d : TypeId) (ht : P.underlying t = some (.slice e)) (he : P.underlying e = some (.int .u8)) (hd : P.underlying d = some .string) (hs : ∀ W', (sizeOf e).run P W' = .ok 1 W') {n : Nat} (hn : n ≤ l.length) :
    ∃ v1 v2, (∀ W' : World, (Instr.slice t v none (some (.int .i64 (n : Int))) none).run P W' = .ok v1 W') ∧ (∀ W' : World, (Instr.slice t v (some (.int .i64 (n : Int))) none none).run P W' = .ok v2 W') ∧
      (∀ W' : World, (∀ g, g < N → W'.heap[g]? = w.heap[g]?) → (convert t d v1).run P W' = .ok (.string ⟨(l.take n).toArray⟩) W') ∧ BSlice N w v2 (l.drop n) := by
  obtain ⟨a, cap, rfl, h2, h3⟩ := h
  have hc : (n : Int) ≤ (cap : Int) := by omega
  have hl : (n : Int) ≤ (l.length : Int) := by omega
  have hte : P.underlying t = some (.slice (P.elem t)) := by simp [Program.elem, ht]
  have hel : P.elem t = e := by simp [Program.elem, ht]
  have hadd : ∀ {g off j : Nat}, (⟨g, off, none⟩ : Addr).add j = ⟨g, off + j, none⟩ := fun {g off j} => by unfold Addr.add; split <;> simp_all
  refine ⟨.slice a n cap, .slice (if cap = n then a else a.map (·.add n)) (l.length - n) (cap - n), fun W' => ?_, fun W' => ?_, fun W' hW => ?_, ?_⟩
  · rw [run_slice_h W' t a l.length cap hte .i64 n (by omega) hc, hel, hs]
    simp only [Result.andThen, sliced, Int.toNat_natCast, Nat.zero_mul, Nat.sub_zero]
    congr 2
    split
    · rfl
    · cases a with
      | none => rfl
      | some ad => simp [Addr.add]
  · rw [run_slice_l W' t a l.length cap hte .i64 n (by omega) hl, hel, hs]
    simp only [Result.andThen, sliced, Int.toNat_natCast, Nat.mul_one]
  · by_cases h0 : n = 0
    · subst h0
      have hnil : ∀ p c0, (convert t d (.slice p 0 c0)).run P W' = .ok (.string ByteArray.empty) W' := fun p c0 => by
        rw [run_convert_bytes_string W' t d e p 0 c0 ht he hd]
        cases p with
        | none => simp [Conv.bytesToString]
        | some ad =>
          have := run_bytesToString (P := P) W' ad 0 c0 [] (by rfl)
          rw [this]
          rfl
      rw [hnil]
      rfl
    · obtain ⟨g, off, rfl, h4, _⟩ := h3 0 (by omega)
      have := run_convert_bytes_arg (P := P) W' t e ht he g off n cap ((l.take n).map fun x => (x.toNat : Int)) (by simp; omega) (fun i hi => by
        obtain ⟨g', off', e1, h5, h6⟩ := h3 i (by omega)
        cases e1
        rw [World.cell?_of_block (w := w) (a := ⟨g, off + i, none⟩) (hW g h4), h6]
        simp [List.getD, List.getElem?_take_of_lt hi, List.getElem?_eq_getElem (show i < l.length by omega)]) d hd
      rw [this, strOfNums_list]
  · refine ⟨if cap = n then a else a.map (·.add n), cap - n, by simp, by simp; omega, fun k hk => ?_⟩
    simp at hk
    obtain ⟨g, off, rfl, h4, h5⟩ := h3 (n + k) (by omega)
    have hne : cap ≠ n := by omega
    refine ⟨g, off + n, by simp [hne, hadd], h4, ?_⟩
    rw [Nat.add_assoc, h5]
    simp

/-- A window: a text. -/
theorem BSlice.window {N : Nat} {w : World} {v : Value} {l : List UInt8} (h : BSlice N w v l) (t e d : TypeId) (ht : P.underlying t = some (.slice e)) (he : P.underlying e = some (.int .u8)) (hd : P.underlying d = some .string) (hs : ∀ W', (sizeOf e).run P W' = .ok 1 W') {i n : Nat} (hn : i + n ≤ l.length) :
    ∃ (a1 : Option Addr) (c1 : Nat), (∀ W' : World, (Instr.slice t v (some (.int .i64 (i : Int))) (some (.int .i64 ((i + n : Nat) : Int))) none).run P W' = .ok (.slice a1 n c1) W') ∧
      (∀ W' : World, (∀ g, g < N → W'.heap[g]? = w.heap[g]?) → (convert t d (.slice a1 n c1)).run P W' = .ok (.string ⟨((l.drop i).take n).toArray⟩) W') := by
  obtain ⟨a, cap, rfl, h2, h3⟩ := h
  have hte : P.underlying t = some (.slice (P.elem t)) := by simp [Program.elem, ht]
  have hel : P.elem t = e := by simp [Program.elem, ht]
  have hadd : ∀ {g off j : Nat}, (⟨g, off, none⟩ : Addr).add j = ⟨g, off + j, none⟩ := fun {g off j} => by unfold Addr.add; split <;> simp_all
  refine ⟨if cap = i then a else a.map (·.add i), cap - i, fun W' => ?_, fun W' hW => ?_⟩
  · rw [run_slice_lh W' t a l.length cap hte .i64 .i64 i ((i + n : Nat) : Int) (by omega) (by omega) (by omega), hel, hs]
    simp only [Result.andThen, sliced, Int.toNat_natCast, Nat.mul_one]
    rw [show i + n - i = n by omega]
  · by_cases h0 : n = 0
    · subst h0
      have hnil : ∀ p c0, (convert t d (.slice p 0 c0)).run P W' = .ok (.string ByteArray.empty) W' := fun p c0 => by
        rw [run_convert_bytes_string W' t d e p 0 c0 ht he hd]
        cases p with
        | none => simp [Conv.bytesToString]
        | some ad =>
          have := run_bytesToString (P := P) W' ad 0 c0 [] (by rfl)
          rw [this]
          rfl
      rw [hnil]
      rfl
    · obtain ⟨g, off, rfl, h4, _⟩ := h3 i (by omega)
      have hne : cap ≠ i := by omega
      simp only [hne, if_false, Option.map_some, hadd]
      have := run_convert_bytes_arg (P := P) W' t e ht he g (off + i) n (cap - i) (((l.drop i).take n).map fun x => (x.toNat : Int)) (by simp; omega) (fun j hj => by
        obtain ⟨g', off', e1, h5, h6⟩ := h3 (i + j) (by omega)
        cases e1
        rw [World.cell?_of_block (w := w) (a := ⟨g, off + i + j, none⟩) (hW g h4), Nat.add_assoc, h6]
        simp [List.getD, List.getElem?_take_of_lt hj, List.getElem?_eq_getElem (show i + j < l.length by omega)]) d hd
      rw [this, strOfNums_list]
end
end Go.Proofs.Ytbfnnlcckpabnaa
