/- Slices of numbers and of texts that a function made itself: read, written, made, taken short. -/
import Derived.Test.YtfdklmpkienfhaaGreatR1
import Derived.Test.YtfdklmpkienfhaaGreatApq
import Derived.Laws.MakeOwn
import Derived.Laws.BytesArg
namespace Go.Proofs.YtfdklmpkienfhaaGreat
set_option linter.unusedSimpArgs false
set_option linter.unusedVariables false
open Go.RowKit

theorem QRow.set {W : World} {g size : Nat} {v : Value} {n : Nat} {xs : List Value} {off cap : Nat} (h : QRow W g size v n xs) (hv : v = .slice (some ⟨g, off, none⟩) n cap) {j : Nat} (hj : j < xs.length) (u : Value) :
    QRow (W.setCell ⟨g, off + j, none⟩ u) g size v n (xs.set j u) := by
  obtain ⟨off', cap', h1, h2, h3, h4, h5, h6, h7⟩ := h
  have hh : off' = off ∧ cap' = cap := by rw [h1] at hv; simp at hv; exact hv
  obtain ⟨rfl, rfl⟩ := hh
  have hsz : j < cap' * size := by
    have : n * size ≤ cap' * size := Nat.mul_le_mul_right _ h2
    omega
  refine ⟨off', cap', h1, h2, h3, by rw [List.length_set]; exact h4, fun k x hk => ?_, fun k hk => ?_, by simpa [World.setCell] using h7⟩
  · by_cases hkj : k = j
    · subst hkj
      rw [List.getElem?_set_self hj] at hk
      cases hk
      obtain ⟨z, hz⟩ := Option.isSome_iff_exists.1 (h6 k hsz).1
      exact World.cell?_setCell_same _ _ _ hz
    · rw [List.getElem?_set_ne (Ne.symm hkj)] at hk
      rw [World.cell?_setCell_other _ _ _ _ (by simp; try omega)]
      exact h5 k x hk
  · rw [World.frozen?_setCell]
    refine ⟨?_, (h6 k hk).2⟩
    by_cases hkj : k = j
    · subst hkj
      obtain ⟨z, hz⟩ := Option.isSome_iff_exists.1 (h6 k hsz).1
      rw [World.cell?_setCell_same _ _ _ hz]; rfl
    · rw [World.cell?_setCell_other _ _ _ _ (by simp; try omega)]
      exact (h6 k hk).1

/-- What a walk reads of a slice. -/
theorem QRow.open {w : World} {g : Nat} {v : Value} {n : Nat} {xs : List Value} (h : QRow w g 1 v n xs) : ∃ off cap, v = .slice (some ⟨g, off, none⟩) n cap ∧ (∀ j u, xs[j]? = some u → w.cell? ⟨g, off + j, none⟩ = some u) ∧ (∀ j, j < n → w.frozen? ⟨g, off + j, none⟩ = false) ∧ g < w.heap.size ∧ n ≤ cap ∧ xs.length = n := by
  obtain ⟨off, cap, h1, h2, h3, h4, h5, h6, h7⟩ := h
  exact ⟨off, cap, h1, h5, fun j hj => (h6 j (by omega)).2, h7, h2, by omega⟩

theorem QRow.later {w w' : World} {g size : Nat} {v : Value} {n : Nat} {xs : List Value} (h : QRow w g size v n xs) (hb : Below w.heap.size w w') : QRow w' g size v n xs := by
  have hl : g < w.heap.size := by obtain ⟨_, _, _, _, _, _, _, _, h⟩ := h; exact h
  exact h.of_heap (hb.block g hl) hb.size

/-- Numbers of a kind. -/
abbrev nums (k : IntKind) (l : List Int) : List Value := l.map (Value.int k)

theorem nums_get {k : IntKind} {l : List Int} {j : Nat} (h : j < l.length) : (nums k l)[j]? = some (.int k l[j]) := by
  simp [nums, List.getElem?_map, List.getElem?_eq_getElem h]
theorem nums_getD {k : IntKind} {l : List Int} {j : Nat} (h : j < l.length) : (nums k l)[j]? = some (.int k (l.getD j 0)) := by
  rw [nums_get h]; simp [List.getD, List.getElem?_eq_getElem h]
theorem nums_set (k : IntKind) (l : List Int) (j : Nat) (x : Int) : nums k (l.set j x) = (nums k l).set j (.int k x) := by
  simp [nums, List.map_set]

/-- A slice of numbers of 64 bits in memory of its own. -/
def IQ (k : IntKind) (w : World) (g : Nat) (v : Value) (l : List Int) : Prop := QRow w g 1 v l.length (nums k l)

theorem IQ.later {k : IntKind} {w w' : World} {g : Nat} {v : Value} {l : List Int} (h : IQ k w g v l) (hb : Below w.heap.size w w') : IQ k w' g v l := QRow.later h hb
theorem IQ.lt {k : IntKind} {w : World} {g : Nat} {v : Value} {l : List Int} (h : IQ k w g v l) : g < w.heap.size := by
  obtain ⟨_, _, _, _, _, _, _, _, h⟩ := h; exact h
theorem IQ.of_heap {k : IntKind} {w w' : World} {g : Nat} {v : Value} {l : List Int} (h : IQ k w g v l) (hh : w'.heap[g]? = w.heap[g]?) (hs : w.heap.size ≤ w'.heap.size) : IQ k w' g v l := QRow.of_heap h hh hs
theorem IQ.bd {k : IntKind} {w : World} {g : Nat} {v : Value} {l : List Int} (h : IQ k w g v l) : l.length ≤ 9223372036854775807 := by
  obtain ⟨off, cap, h1, h2, h3, _⟩ := h
  unfold maxLen at h3
  omega
/-- What a walk reads. -/
theorem IQ.open {k : IntKind} {w : World} {g : Nat} {v : Value} {l : List Int} (h : IQ k w g v l) : ∃ off cap, v = .slice (some ⟨g, off, none⟩) l.length cap ∧ (∀ j, j < l.length → w.cell? ⟨g, off + j, none⟩ = some (.int k (l.getD j 0))) ∧ (∀ j, j < l.length → w.frozen? ⟨g, off + j, none⟩ = false) := by
  obtain ⟨off, cap, h1, h2, h3, h4, h5, h6⟩ := QRow.open h
  exact ⟨off, cap, h1, fun j hj => h2 j _ (nums_getD hj), h3⟩
theorem IQ.at {k : IntKind} {w : World} {g off n cap : Nat} {l : List Int} (h : IQ k w g (.slice (some ⟨g, off, none⟩) n cap) l) : n = l.length ∧ (∀ j, j < l.length → w.cell? ⟨g, off + j, none⟩ = some (.int k (l.getD j 0))) ∧ (∀ j, j < l.length → w.frozen? ⟨g, off + j, none⟩ = false) := by
  obtain ⟨off', cap', e, h1, h2⟩ := h.open
  simp only [Value.slice.injEq, Option.some.injEq, Addr.mk.injEq, true_and, and_true] at e
  obtain ⟨rfl, rfl, rfl⟩ := e
  exact ⟨rfl, h1, h2⟩
/-- What a walk writes. -/
theorem IQ.set {k : IntKind} {w : World} {g off n cap : Nat} {l : List Int} (h : IQ k w g (.slice (some ⟨g, off, none⟩) n cap) l) {j : Nat} (hj : j < l.length) (x : Int) : IQ k (w.setCell ⟨g, off + j, none⟩ (.int k x)) g (.slice (some ⟨g, off, none⟩) n cap) (l.set j x) := by
  obtain ⟨off', cap', e, _⟩ := id h
  cases e
  have := QRow.set h rfl (j := j) (by simpa using hj) (.int k x)
  unfold IQ
  rw [List.length_set, nums_set]
  exact this
theorem IQ.modify {k : IntKind} {w : World} {g off n cap : Nat} {l : List Int} (h : IQ k w g (.slice (some ⟨g, off, none⟩) n cap) l) {j : Nat} (hj : j < l.length) (f : Int → Int) {x : Int} (hx : x = f (l.getD j 0)) : IQ k (w.setCell ⟨g, off + j, none⟩ (.int k x)) g (.slice (some ⟨g, off, none⟩) n cap) (l.modify j f) := by
  have e : l.modify j f = l.set j x := by
    rw [hx]
    apply List.ext_getElem?
    intro i
    rw [List.getElem?_modify, List.getElem?_set]
    by_cases h1 : j = i
    · subst h1
      simp [List.getD, List.getElem?_eq_getElem hj, hj]
    · simp [h1]
  rw [e]
  exact h.set hj x
/-- Only the block of the slice changes. -/
theorem only_one (w : World) (g o : Nat) (u : Value) : Only (fun k => k = g) w (w.setCell ⟨g, o, none⟩ u) := (Only.refl (fun k => k = g) w).setCell (p := ⟨g, o, none⟩) rfl u

theorem made_nums (z : Value) (n : Nat) : madeCells #[z] (n * 1) = (List.replicate n z).toArray := by
  apply Array.ext
  · simp [madeCells]
  · intro i h1 h2
    simp [madeCells, Nat.mod_one]

theorem IQ.new (k : IntKind) (w : World) (l : List Int) (t : TypeId) (hn : l.length ≤ maxLen) : IQ k (w.alloc (.cells (nums k l).toArray t)) w.heap.size (.slice (some ⟨w.heap.size, 0, none⟩) l.length l.length) l :=
  QRow.new w (nums k l) l.length 1 t (by simp) hn

theorem zeros_nums (k : IntKind) (n : Nat) : List.replicate n (Value.int k 0) = nums k (List.replicate n 0) := by simp [nums]

theorem IQ.zeros (k : IntKind) (w : World) (n : Nat) (t : TypeId) (hn : n ≤ 1000000000) : IQ k (w.alloc (.cells (Array.replicate n (.int k 0)) t)) w.heap.size (.slice (some ⟨w.heap.size, 0, none⟩) n n) (List.replicate n 0) := by
  have h := IQ.new k w (List.replicate n 0) t (by simp [maxLen]; omega)
  have e : (nums k (List.replicate n 0)).toArray = Array.replicate n (.int k 0) := by simp [nums]
  rw [e] at h
  simpa using h

/-- A slice of zeros is made. -/
theorem run_make_nums {P : Program} {k : IntKind} (w : World) (t e : TypeId) (i : TypeInfo) (ht : P.underlying t = some (.slice e)) (hi : P.info? e = some i) (hz : i.zero = some (.int k 0)) (hs : i.size = 1) (hb : i.bytes ≤ 8) (n : Nat) (hn : n ≤ 1000000000) :
    (Instr.makeSlice t (.int .i64 n) (.int .i64 n)).run P w = .ok (.slice (some ⟨w.heap.size, 0, none⟩) n n) (w.alloc (.cells (Array.replicate n (.int k 0)) e)) := by
  have hbytes : (i.bytes : Int) * (n : Int) ≤ 281474976710656 := by
    have h1 : i.bytes * n ≤ 8 * 1000000000 := Nat.mul_le_mul hb hn
    have h2 : ((i.bytes * n : Nat) : Int) = (i.bytes : Int) * (n : Int) := by simp
    omega
  have h := run_make (P := P) w t e i (.int k 0) ht hi hz .i64 .i64 (n : Int) (n : Int) (by omega) (by omega) hbytes (by omega)
  rw [Int.toNat_natCast, hs] at h
  rw [h]
  congr 3
  show madeCells #[.int k 0] (n * 1) = _
  rw [made_nums]
  simp

theorem infoInt : (Tryz.prog.info? 3).map (fun i => (i.zero, i.size, i.bytes)) = some (some (.int .i64 0), 1, 8) := by kernel_rfl
theorem infoByte : (Tryz.prog.info? 5).map (fun i => (i.zero, i.size, i.bytes)) = some (some (.int .u8 0), 1, 1) := by kernel_rfl

theorem make_ints (w : World) (n : Nat) (hn : n ≤ 1000000000) :
    (Instr.makeSlice 24 (.int .i64 n) (.int .i64 n)).run Tryz.prog w = .ok (.slice (some ⟨w.heap.size, 0, none⟩) n n) (w.alloc (.cells (Array.replicate n (.int .i64 0)) 3)) := by
  obtain ⟨i, hi, hz, hs, hb⟩ := info_parts infoInt
  exact run_make_nums w _ _ i Tryz.underlying24 hi hz hs (by omega) n hn
theorem make_bytes (w : World) (n : Nat) (hn : n ≤ 1000000000) :
    (Instr.makeSlice 168 (.int .i64 n) (.int .i64 n)).run Tryz.prog w = .ok (.slice (some ⟨w.heap.size, 0, none⟩) n n) (w.alloc (.cells (Array.replicate n (.int .u8 0)) 5)) := by
  obtain ⟨i, hi, hz, hs, hb⟩ := info_parts infoByte
  exact run_make_nums w _ _ i Tryz.underlying168 hi hz hs (by omega) n hn

/-- A slice of bytes as a text. -/
theorem run_text (w : World) (g off n cap : Nat) (l : List UInt8) (hn : n = l.length) (h : ∀ j (hj : j < l.length), w.cell? ⟨g, off + j, none⟩ = some (.int .u8 (l[j].toNat : Int))) :
    Sem.run Tryz.prog (convert 168 9 (.slice (some ⟨g, off, none⟩) n cap)) w = .ok (str l) w := by
  subst hn
  refine run_convert_bytes_back w _ _ _ ⟨g, off, none⟩ cap l Tryz.underlying168 Tryz.underlying5 Tryz.underlying9 (fun j hj => ?_)
  rw [Addr.add_lit]
  exact h j hj
end Go.Proofs.YtfdklmpkienfhaaGreat
