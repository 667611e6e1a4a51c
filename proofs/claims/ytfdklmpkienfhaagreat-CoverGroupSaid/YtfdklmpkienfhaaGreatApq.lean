/- Appends to a row in a known block: from whatever source. Over any program. -/
import Derived.Deep.AppendSrc
import Derived.Test.YtfdklmpkienfhaaGreatQueue
import Derived.Test.YtfdklmpkienfhaaGreatRow
namespace Go.Proofs.YtfdklmpkienfhaaGreat
set_option linter.unusedSimpArgs false
set_option linter.unusedVariables false
open Go.RowKit

section
variable {P : Program}

theorem QRow.appendSrc {W : World} {g size : Nat} {v : Value} {n : Nat} {xs : List Value} (h : QRow W g size v n xs) (t tx ty e : TypeId) (i : TypeInfo) (z : Value) (bytes : Nat) (ht : P.underlying t = some (.slice e)) (hi : P.info? e = some i) (hz : i.zero = some z)
    (hsize : i.size = size) (hby : i.bytes = bytes) (hzs : z.cells.size = size) (hsz : 0 < size)
    {x : Value} {m : Nat} {news : List Value} (hs : Src P size tx x m news W) (h63 : n + m ≤ maxLen) (hbytes : (n + m) * bytes ≤ 140737488355328) :
    ∃ v' W' g', (Builtin.append_ #[t, tx] ty #[v, x]).run P W = .ok v' W' ∧ QRow W' g' size v' (n + m) (xs ++ news) ∧ Only (fun k => k = g ∨ W.heap.size ≤ k) W W' ∧ (g' = g ∨ W.heap.size ≤ g') := by
  obtain ⟨off, cap, rfl, h2, h3, h4, h5, h6, h7⟩ := h
  have hl := hs.newsLen
  by_cases hr : n + m ≤ cap
  · subst hsize
    have hin : ∀ j, j < news.length → n * i.size + j < cap * i.size := fun j hj => by
      have : (n + m) * i.size ≤ cap * i.size := Nat.mul_le_mul_right _ hr
      rw [Nat.add_mul] at this
      omega
    have hc : ∀ j, j < news.length → (W.cell? ⟨g, off + n * i.size + j, none⟩).isSome = true := fun j hj => by
      have := (h6 (n * i.size + j) (hin j hj)).1
      rwa [← Nat.add_assoc] at this
    have hf : ∀ j, j < news.length → W.frozen? ⟨g, off + n * i.size + j, none⟩ = false := fun j hj => by
      have := (h6 (n * i.size + j) (hin j hj)).2
      rwa [← Nat.add_assoc] at this
    have hrun := run_append_room_src (P := P) W t tx ty e i ht hi g off n cap x m news hs hr hc hf
    refine ⟨_, _, g, hrun, ⟨off, cap, rfl, hr, h3, by rw [List.length_append, h4, hl, Nat.add_mul], ?_, ?_, ?_⟩, ?_, .inl rfl⟩
    · intro j u hj
      by_cases hlt : j < xs.length
      · rw [List.getElem?_append_left hlt] at hj
        rw [World.cell?_setCells_out]
        · exact h5 j u hj
        · intro _ _
          left
          rw [h4] at hlt
          show off + j < off + n * i.size
          omega
      · rw [List.getElem?_append_right (by omega)] at hj
        have hj' := (List.getElem?_eq_some_iff.1 hj).1
        have := World.cell?_setCells_in g news (off + n * i.size) W hc (j - xs.length) hj'
        have hoff : off + n * i.size + (j - xs.length) = off + j := by omega
        rw [hoff] at this
        rw [this]
        obtain ⟨_, hu⟩ := List.getElem?_eq_some_iff.1 hj
        exact congrArg some hu
    · intro j hj
      rw [World.frozen?_setCells]
      refine ⟨?_, (h6 j hj).2⟩
      by_cases hin' : n * i.size ≤ j ∧ j < n * i.size + news.length
      · have := World.cell?_setCells_in g news (off + n * i.size) W hc (j - n * i.size) (by omega)
        rw [show off + n * i.size + (j - n * i.size) = off + j by omega] at this
        rw [this]; rfl
      · rw [World.cell?_setCells_out]
        · exact (h6 j hj).1
        · intro _ _
          show off + j < off + n * i.size ∨ off + n * i.size + news.length ≤ off + j
          omega
    · have := setCells_size g news (off + n * i.size) W
      omega
    · exact only_setCells (.inl rfl) news _ W
  · have hold : (Builtin.firstCells i.size n (.slice (some ⟨g, off, none⟩) n cap)).run P W.drew = .ok xs.toArray W.drew :=
      run_firstCells_some W.drew i.size n ⟨g, off, none⟩ n cap xs (by rw [hsize]; exact h4) (fun j u hj => by
        rw [Addr.add_lit]
        exact h5 j u hj)
    subst hsize
    have hrun := run_append_grow_src (P := P) W t tx ty e i z ht hi hz (some ⟨g, off, none⟩) n cap xs hold x m news hs (by omega) (by unfold maxLen at h63; omega) (by rw [hby]; exact growslice_fits (by omega) hbytes)
    have hge := grownCap_ge W (n + m) cap e
    have hcm := grownCap_le_maxLen W (n + m) cap e h63
    have hhn : ∀ o : Obj, (W.drew.alloc o).heap[W.heap.size]? = some o := fun o => heap_alloc_new W.drew o
    refine ⟨_, _, W.heap.size, hrun, ⟨0, _, rfl, hge, hcm, by rw [List.length_append, h4, hl, Nat.add_mul], ?_, ?_, ?_⟩, ?_, .inr (Nat.le_refl _)⟩
    · intro j u hj
      rw [cell_of_heap (hhn _), Nat.zero_add]
      have hjl := (List.getElem?_eq_some_iff.1 hj).1
      rw [Array.getElem?_append_left (by simpa using hjl)]
      simpa using hj
    · intro j hj
      rw [cell_of_heap (hhn _), free_of_heap (hhn _), Nat.zero_add]
      refine ⟨?_, rfl⟩
      have hsz2 : (((xs ++ news).toArray ++ Builtin.zeroCells z.cells (grownCap W (n + m) cap e - (n + m)))).size = grownCap W (n + m) cap e * i.size := by
        simp only [Array.size_append, List.size_toArray, size_zeroCells, hzs, List.length_append, h4, hl, ← Nat.add_mul]
        congr 1
        omega
      rw [Array.getElem?_eq_getElem (by rw [hsz2]; exact hj)]
      rfl
    · show W.heap.size < (W.heap.push _).size
      simp
    · exact ((Only.refl _ W).drew).alloc (fun k hk => .inr (by simpa using hk)) _

/-- The operation, for the walk. -/
theorem wpList_queueSrc {w : World} {ops : Array Oper} {rest : List Oper} {o : Oper} {a : Act} {Q : Exit → Act → World → Prop} {t tx e : TypeId} {size : Nat} (R : RowType P t e size) (hgd : o.guard = none) (s x : Operand)
    (ho : o.op = .call { callee := .builtin .append, args := #[s, x], argTypes := #[t, tx] }) {g n : Nat} {v : Value} {xs : List Value} (hs : a.eval s = v) (hq : QRow w g size v n xs)
    {xv : Value} {m : Nat} {news : List Value} (hx : a.eval x = xv) (hsrc : Src P size tx xv m news w) (hn : n + m ≤ 1000000000)
    (hK : ∀ v' w' g', QRow w' g' size v' (n + m) (xs ++ news) → Only (fun k => k = g ∨ w.heap.size ≤ k) w w' → (g' = g ∨ w.heap.size ≤ g') → wpList P ops Q rest (a.put o.dst v') w') : wpList P ops Q (o :: rest) a w := by
  obtain ⟨i, z, bytes, r1, r2, r3, r4, r5, r6, r7, r8⟩ := R
  have hb : (n + m) * bytes ≤ 140737488355328 := by
    have := Nat.mul_le_mul hn r8
    omega
  refine wpList_plain hgd fun _ hK2 => ?_
  obtain ⟨v', w', g', hr, h2, h3, h4⟩ := hq.appendSrc (P := P) t tx o.type e i z bytes r1 r2 r3 r4 r5 r6 r7 hsrc (by unfold maxLen; omega) hb
  unfold Oper.wp execOp
  simp only [ho, resolve, invoke, builtin, Sem.run_bind, Sem.run_pure, Result.andThen_ok, List.map_toArray, List.map_cons, List.map_nil, hs, hx, hr]
  exact hK2 _ _ (hK v' w' g' h2 h3 h4)

/-- .. in a region of one order behind loads. -/
theorem wpList_queueSrc_grow1 {w : World} {ops : Array Oper} {rest : List Oper} {o : Oper} {a : Act} {Q : Exit → Act → World → Prop} {t e : TypeId} {size : Nat} (R : RowType P t e size) (hgd : o.guard = none) (s x : Operand)
    (ho : o.op = .call { callee := .builtin .append, args := #[s, x], argTypes := #[t, t] }) {g n : Nat} {v : Value} {xs : List Value} (hs : a.eval s = v) (hq : QRow w g size v n xs)
    (m : Nat) (news : List Value) (ty : TypeId) (hx : a.eval x = .slice (some ⟨w.heap.size, 0, none⟩) m m) (hl : news.length = m * size) (h1 : ∀ u ∈ news, u.oneCell' = true) (hn : n + m ≤ 1000000000)
    (hK : ∀ v' w' g', QRow w' g' size v' (n + m) (xs ++ news) → Only (fun k => k = g ∨ w.heap.size ≤ k) w w' → (g' = g ∨ w.heap.size ≤ g') → wpList P ops Q rest (a.put o.dst v') w') : wpList P ops Q (o :: rest) a (w.alloc (.cells news.toArray ty)) := by
  have hk : P.underlying t = some (.slice e) := by obtain ⟨_, _, _, r1, _⟩ := R; exact r1
  have hq1 : QRow (w.alloc (.cells news.toArray ty)) g size v n xs := hq.of_heap (Below.heap_alloc _ _ _ (by obtain ⟨_, _, _, _, _, _, _, _, h7⟩ := hq; exact h7)) (by simp)
  refine wpList_queueSrc R hgd s x ho hs hq1 hx (Src.ofSlice (P := P) _ hk ⟨w.heap.size, 0, none⟩ m m news hl new_cells h1) hn ?_
  intro v' w' g' h2 h3 h4
  refine hK v' w' g' h2 (((Only.refl _ w).alloc (fun k hk => .inr hk) _).trans (h3.mono (fun k hk => ?_))) ?_
  · rcases hk with hk | hk
    · exact .inl hk
    · simp at hk; exact .inr (by omega)
  · rcases h4 with h4 | h4
    · exact .inl h4
    · simp at h4; exact .inr (by omega)
end
end Go.Proofs.YtfdklmpkienfhaaGreat
