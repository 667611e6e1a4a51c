/- Small lemmas for all seats. -/
import Derived.Test.YtfdklmpkienfhaaGreatWords
import Derived.MapKept
import Derived.RangeFuncRecord
namespace Go.Proofs.YtfdklmpkienfhaaGreat
set_option linter.unusedSimpArgs false
set_option linter.unusedVariables false
open Go.RowKit

theorem bytes_beq (a b : List UInt8) : ((⟨a.toArray⟩ : ByteArray) == ⟨b.toArray⟩) = (a == b) := by
  show (a.toArray == b.toArray) = (a == b)
  simp

theorem Only.of_below {B : Nat → Prop} {w w' : World} (h : Below w.heap.size w w') (hB : ∀ k, w.heap.size ≤ k → B k) : Only B w w' :=
  ⟨h.os, h.tape, h.output, h.size, fun k hk => h.block k (Nat.lt_of_not_le (fun hle => hk (hB k hle)))⟩

theorem below_undrew {N : Nat} {w w' : World} (h : Below N w.drew w') : Below N w w' := ⟨h.os, h.tape, h.output, h.size, h.block⟩

theorem bcell {W w1 : World} (hb : Below W.heap.size W w1) : (∀ b o, b < W.heap.size → w1.cell? ⟨b, o, none⟩ = W.cell? ⟨b, o, none⟩) ∧ (∀ b o, b < W.heap.size → w1.frozen? ⟨b, o, none⟩ = W.frozen? ⟨b, o, none⟩) :=
  ⟨fun b o h => hb.cell (p := ⟨b, o, none⟩) h, fun b o h => hb.frozen (p := ⟨b, o, none⟩) h⟩

theorem below_unalloc {w : World} {ob : Obj} {w' : World} (h : Below (w.alloc ob).drew.heap.size (w.alloc ob).drew w') : Below w.heap.size w w' :=
  ((Below.refl _ w).alloc (Nat.le_refl _) ob).trans ((below_undrew h).mono (by simp [World.drew]))

theorem run_index_str (l : List UInt8) (k : Nat) (c : UInt8) (h : l[k]? = some c) (w : World) : (Instr.index 9 (.string ⟨l.toArray⟩) (.int .i64 k)).run Tryz.prog w = .ok (.int .u8 c.toNat) w := by
  have hb : (⟨l.toArray⟩ : ByteArray)[k]? = some c := by
    obtain ⟨hk, rfl⟩ := List.getElem?_eq_some_iff.1 h
    have hk' : k < (⟨l.toArray⟩ : ByteArray).size := by
      show k < l.toArray.size
      simpa using hk
    rw [getElem?_pos (⟨l.toArray⟩ : ByteArray) k hk']
    rfl
  simp [Instr.index, Sem.run_bind, run_underlying Tryz.underlying9, Result.andThen, asIntOf, hb]

theorem byte_wrap (n : Nat) : IntKind.u8.wrap (n : Int) = ((UInt8.ofNat n).toNat : Int) := by
  simp [IntKind.wrap, IntKind.bits, IntKind.signed]
end Go.Proofs.YtfdklmpkienfhaaGreat
