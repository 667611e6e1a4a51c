/- A slice that is taken from at its front and appended to at its end. Over any program. -/
import Derived.OwnWalkIn
import Derived.ArgAppend
import Derived.Deep.Upon
import Derived.RangeFuncRecord
import Derived.Test.YtfdklmpkienfhaaGreatOrd
namespace Go.Proofs.YtfdklmpkienfhaaGreat
set_option linter.unusedSimpArgs false
set_option linter.unusedVariables false
open Go.RowKit

theorem setCells_size (g : Nat) : ∀ (vs : List Value) (o : Nat) (W : World), (W.setCells g o vs).heap.size = W.heap.size
  | [], _, _ => rfl
  | v :: r, o, W => by rw [World.setCells, setCells_size g r]; simp [World.setCell]

theorem only_setCells {B : Nat → Prop} {g : Nat} (hB : B g) : ∀ (vs : List Value) (o : Nat) (W : World), Only B W (W.setCells g o vs)
  | [], _, W => Only.refl B W
  | v :: r, o, W => by
    rw [World.setCells]
    exact ((Only.refl B W).setCell (p := ⟨g, o, none⟩) hB v).trans (only_setCells hB r (o + 1) _)

/-- v is a slice of n elements of some cells each, in block g; its cells read as xs; its spare cells can be written. -/
def QRow (W : World) (g size : Nat) (v : Value) (n : Nat) (xs : List Value) : Prop :=
  ∃ off cap, v = .slice (some ⟨g, off, none⟩) n cap ∧ n ≤ cap ∧ cap ≤ maxLen ∧ xs.length = n * size ∧ (∀ j u, xs[j]? = some u → W.cell? ⟨g, off + j, none⟩ = some u) ∧
    (∀ j, j < cap * size → (W.cell? ⟨g, off + j, none⟩).isSome = true ∧ W.frozen? ⟨g, off + j, none⟩ = false) ∧ g < W.heap.size

theorem QRow.of_heap {W W' : World} {g size : Nat} {v : Value} {n : Nat} {xs : List Value} (h : QRow W g size v n xs) (hh : W'.heap[g]? = W.heap[g]?) (hs : W.heap.size ≤ W'.heap.size) : QRow W' g size v n xs := by
  obtain ⟨off, cap, h1, h2, h3, h4, h5, h6, h7⟩ := h
  refine ⟨off, cap, h1, h2, h3, h4, fun j u hj => ?_, fun j hj => ?_, by omega⟩
  · rw [World.cell?_of_block (w := W) (a := ⟨g, off + j, none⟩) hh]; exact h5 j u hj
  · rw [World.cell?_of_block (w := W) (a := ⟨g, off + j, none⟩) hh, World.frozen?_of_block (w := W) (a := ⟨g, off + j, none⟩) hh]; exact h6 j hj

/-- A new row. -/
theorem QRow.new (W : World) (xs : List Value) (n size : Nat) (t : TypeId) (hl : xs.length = n * size) (hn : n ≤ maxLen) : QRow (W.alloc (.cells xs.toArray t)) W.heap.size size (.slice (some ⟨W.heap.size, 0, none⟩) n n) n xs := by
  have hh := World.alloc_heap_new W (.cells xs.toArray t)
  refine ⟨0, n, rfl, Nat.le_refl _, hn, hl, fun j u hj => ?_, fun j hj => ?_, by simp⟩
  · rw [cell_of_heap hh]; simpa using hj
  · rw [cell_of_heap hh, free_of_heap hh]; simp; omega

theorem QRow.ofOwns {W : World} {base : Nat} {e : TypeId} {size : Nat} {v : Value} {n : Nat} {xs : List Value} (h : W.ownsRow base e size v n xs) (hn : 0 < n) : ∃ g, base ≤ g ∧ QRow W g size v n xs := by
  obtain ⟨h1, h2⟩ := h
  rcases h2 with ⟨_, h2⟩ | ⟨g, cap, cur, h2, h3, h4, h5, h6, h7, h8⟩
  · omega
  · refine ⟨g, h3, 0, cap, h2, h5, h6, h1, fun j u hj => ?_, fun j hj => ?_, (Array.getElem?_eq_some_iff.1 h4).1⟩
    · rw [cell_of_heap h4]
      have h9 := congrArg (fun l => l[j]?) h8
      simp only [hj] at h9
      have hj' : j < n * size := by rw [← h1]; exact (List.getElem?_eq_some_iff.1 hj).1
      rw [List.getElem?_take_of_lt hj'] at h9
      simpa using h9
    · rw [cell_of_heap h4, free_of_heap h4]
      simp; omega

section
variable {P : Program}

theorem QRow.append {W : World} {g size : Nat} {v : Value} {n : Nat} {xs : List Value} (h : QRow W g size v n xs) (t ty e : TypeId) (i : TypeInfo) (z : Value) (bytes : Nat) (ht : P.underlying t = some (.slice e)) (hi : P.info? e = some i) (hz : i.zero = some z)
    (hsize : i.size = size) (hby : i.bytes = bytes) (hzs : z.cells.size = size) (hsz : 0 < size)
    (ad : Addr) (m c : Nat) (news : List Value) (hl : news.length = m * size) (hm : 0 < m) (hnews : ∀ j u, news[j]? = some u → W.cell? (ad.add j) = some u) (h1 : ∀ u ∈ news, u.oneCell' = true) (h63 : n + m ≤ maxLen) (hbytes : (n + m) * bytes ≤ 140737488355328) :
    ∃ v' W' g', (Builtin.append_ #[t, t] ty #[v, .slice (some ad) m c]).run P W = .ok v' W' ∧ QRow W' g' size v' (n + m) (xs ++ news) ∧ Only (fun k => k = g ∨ W.heap.size ≤ k) W W' ∧ (g' = g ∨ W.heap.size ≤ g') := by
  obtain ⟨off, cap, rfl, h2, h3, h4, h5, h6, h7⟩ := h
  by_cases hr : n + m ≤ cap
  · subst hsize
    have hin : ∀ j, j < news.length → n * i.size + j < cap * i.size := fun j hj => by
      have : (n + m) * i.size ≤ cap * i.size := Nat.mul_le_mul_right _ hr
      rw [Nat.add_mul] at this
      omega
    have hc : ∀ j, j < news.length → (W.cell? ⟨g, off + n * i.size + j, none⟩).isSome = true := fun j hj => by
      have := (h6 (n * i.size + j) (hin j hj)).1
      rwa [← Nat.add_assoc] at this
    have hf : ∀ j, j < news.length → W.frozen? ⟨g, off + n * i.size + j, none⟩ = false := fun j hj => by
      have := (h6 (n * i.size + j) (hin j hj)).2
      rwa [← Nat.add_assoc] at this
    have hrun := run_append_room_cells (P := P) W t ty e i ht hi g off n cap ad m c news hl hnews h1 hr hc hf
    refine ⟨_, _, g, hrun, ⟨off, cap, rfl, hr, h3, by rw [List.length_append, h4, hl, Nat.add_mul], ?_, ?_, ?_⟩, ?_, .inl rfl⟩
    · intro j u hj
      by_cases hlt : j < xs.length
      · rw [List.getElem?_append_left hlt] at hj
        rw [World.cell?_setCells_out]
        · exact h5 j u hj
        · intro _ _
          left
          rw [h4] at hlt
          show off + j < off + n * i.size
          omega
      · rw [List.getElem?_append_right (by omega)] at hj
        have hj' := (List.getElem?_eq_some_iff.1 hj).1
        have := World.cell?_setCells_in g news (off + n * i.size) W hc (j - xs.length) hj'
        have hoff : off + n * i.size + (j - xs.length) = off + j := by omega
        rw [hoff] at this
        rw [this]
        obtain ⟨_, hu⟩ := List.getElem?_eq_some_iff.1 hj
        exact congrArg some hu
    · intro j hj
      rw [World.frozen?_setCells]
      refine ⟨?_, (h6 j hj).2⟩
      by_cases hin' : n * i.size ≤ j ∧ j < n * i.size + news.length
      · have := World.cell?_setCells_in g news (off + n * i.size) W hc (j - n * i.size) (by omega)
        rw [show off + n * i.size + (j - n * i.size) = off + j by omega] at this
        rw [this]; rfl
      · rw [World.cell?_setCells_out]
        · exact (h6 j hj).1
        · intro _ _
          show off + j < off + n * i.size ∨ off + n * i.size + news.length ≤ off + j
          omega
    · have := setCells_size g news (off + n * i.size) W
      omega
    · exact only_setCells (.inl rfl) news _ W
  · obtain ⟨v', W', hrun, r1, r2⟩ := run_append_arg_grows (P := P) W t ty e i z size bytes ht hi hz hsize hby hzs hsz ⟨g, off, none⟩ n cap xs h4 (fun j u hj => by rw [Addr.add_lit]; exact h5 j u hj) ad m c news hl hnews (by omega) h63 hbytes
    obtain ⟨g', hg', hq⟩ := QRow.ofOwns r1 (by omega)
    refine ⟨v', W', g', hrun, hq, ⟨r2.os, r2.tape, r2.output, r2.size, fun k hk => r2.block k (by omega) (by simp)⟩, .inr hg'⟩

/-- All but the first. -/
theorem QRow.tail {W : World} {g size : Nat} {v : Value} {n : Nat} {hd xs : List Value} (h : QRow W g size v (n + 1) (hd ++ xs)) (hh : hd.length = size) (t e : TypeId) (ht : P.underlying t = some (.slice e)) (hs : ∀ W', (sizeOf e).run P W' = .ok size W') :
    ∃ v', (∀ W', (Instr.slice t v (some (.int .i64 1)) none none).run P W' = .ok v' W') ∧ QRow W g size v' n xs := by
  obtain ⟨off, cap, rfl, h2, h3, h4, h5, h6, h7⟩ := h
  have hl : xs.length = n * size := by
    rw [List.length_append, hh, Nat.add_mul] at h4; omega
  have hrun : ∀ W', (Instr.slice t (.slice (some ⟨g, off, none⟩) (n + 1) cap) (some (.int .i64 1)) none none).run P W' = .ok (.slice (if cap = 1 then some ⟨g, off, none⟩ else some ⟨g, off + size, none⟩) n (cap - 1)) W' := fun W' => by
    have h1 : (1 : Int) ≤ (n : Int) + 1 := by omega
    simp [Instr.slice, Sem.run_bind, run_underlying ht, Result.andThen, Instr.sliceBounds, Instr.sliceBound, asIntOf, hs, h1, Addr.add]
    by_cases h0 : size = 0
    · simp [h0]
    · simp [h0]
  by_cases hc : cap = 1
  · subst hc
    refine ⟨_, hrun, off, 0, by rw [if_pos rfl], by omega, by omega, hl, ?_, ?_, h7⟩
    · intro j u hj
      have : n = 0 := by omega
      subst this
      simp at hl
      subst hl
      simp at hj
    · intro j hj; simp at hj
  · refine ⟨_, hrun, off + size, cap - 1, by rw [if_neg hc], by omega, by omega, hl, ?_, ?_, h7⟩
    · intro j u hj
      have := h5 (size + j) u (by rw [List.getElem?_append_right (by omega)]; rw [show size + j - hd.length = j by omega]; exact hj)
      rwa [← Nat.add_assoc] at this
    · intro j hj
      have hb : size + j < cap * size := by
        obtain ⟨c, rfl⟩ : ∃ c, cap = c + 1 := ⟨cap - 1, by omega⟩
        rw [Nat.add_sub_cancel] at hj
        rw [Nat.add_mul]; omega
      have := h6 (size + j) hb
      rwa [← Nat.add_assoc] at this

theorem wpList_append_queue {w : World} {ops : Array Oper} {rest : List Oper} {o : Oper} {a : Act} {Q : Exit → Act → World → Prop} (hgd : o.guard = none) (s x : Operand) (t : TypeId)
    (ho : o.op = .call { callee := .builtin .append, args := #[s, x], argTypes := #[t, t] })
    {g size : Nat} {v : Value} {n : Nat} {xs : List Value} (hs : a.eval s = v) (hq : QRow w g size v n xs)
    (e : TypeId) (i : TypeInfo) (z : Value) (bytes : Nat) (ht : P.underlying t = some (.slice e)) (hi : P.info? e = some i) (hz : i.zero = some z)
    (hsize : i.size = size) (hby : i.bytes = bytes) (hzs : z.cells.size = size) (hsz : 0 < size)
    (ad : Addr) (m c : Nat) (news : List Value) (hx : a.eval x = .slice (some ad) m c) (hl : news.length = m * size) (hm : 0 < m) (hnews : ∀ j u, news[j]? = some u → w.cell? (ad.add j) = some u) (h1 : ∀ u ∈ news, u.oneCell' = true)
    (h63 : n + m ≤ maxLen) (hbytes : (n + m) * bytes ≤ 140737488355328)
    (h : ∀ v' w' g', QRow w' g' size v' (n + m) (xs ++ news) → Only (fun k => k = g ∨ w.heap.size ≤ k) w w' → (g' = g ∨ w.heap.size ≤ g') → wpList P ops Q rest (a.put o.dst v') w') : wpList P ops Q (o :: rest) a w := by
  refine wpList_plain hgd fun _ hK => ?_
  obtain ⟨v', w', g', hr, h2, h3, h4⟩ := hq.append (P := P) t o.type e i z bytes ht hi hz hsize hby hzs hsz ad m c news hl hm hnews h1 h63 hbytes
  unfold Oper.wp execOp
  simp only [ho, resolve, invoke, builtin, Sem.run_bind, Sem.run_pure, Result.andThen_ok, List.map_toArray, List.map_cons, List.map_nil, hs, hx, hr]
  exact hK _ _ (h v' w' g' h2 h3 h4)
end
end Go.Proofs.YtfdklmpkienfhaaGreat
