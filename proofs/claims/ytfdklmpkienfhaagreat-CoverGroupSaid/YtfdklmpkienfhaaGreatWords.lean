import Derived.Test.YtfdklmpkienfhaaGreatOrd

/- The functions of package words: what they return, and that nothing that was there before changes. -/
namespace Go.Proofs.YtfdklmpkienfhaaGreat
set_option linter.unusedSimpArgs false
set_option linter.unusedVariables false
open Go.RowKit

theorem GRep.setOther {w : World} {o : Hy.Ord} {B : Nat → Prop} {pb : Nat} {bs : Nat → Nat} {G : List Hy.Node} (h : GRep w o B pb bs G) {a : Addr} (h1 : pb ≠ a.block) (h2 : ∀ i, i < G.length → bs i ≠ a.block) (v : Value) : GRep (w.setCell a v) o B pb bs G := by
  refine ⟨?_, ?_, h.inj, h.ne, h.lo, h.closed⟩
  · rw [heap_setCell_other _ _ _ _ h1]; exact h.plane
  · intro i n hi
    rw [heap_setCell_other _ _ _ _ (h2 i (List.getElem?_eq_some_iff.1 hi).1)]; exact h.node i n hi

theorem below_cell {w w1 : World} {N : Nat} (h : Below N w w1) {b : Nat} (hb : b < N) (k : Nat) : w1.cell? ⟨b, k, none⟩ = w.cell? ⟨b, k, none⟩ := h.cell (p := ⟨b, k, none⟩) hb

end Go.Proofs.YtfdklmpkienfhaaGreat
