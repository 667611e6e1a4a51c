/- A list that grows from nothing, of elements of some cells: in a walk, and in a round of a range over a function. Over any program. -/
import Derived.OwnWalkIn
import Derived.Test.YtfdklmpkienfhaaGreatGq
namespace Go.Proofs.YtfdklmpkienfhaaGreat
set_option linter.unusedSimpArgs false
set_option linter.unusedVariables false
open Go.RowKit

theorem QRow.bd {w : World} {g size : Nat} {v : Value} {n : Nat} {xs : List Value} (h : QRow w g size v n xs) : g < w.heap.size := by
  obtain ⟨_, _, _, _, _, _, _, _, h⟩ := h; exact h
/-- None yet, or a row of the call's own. -/
def GR (w : World) (size : Nat) (v : Value) (n : Nat) (xs : List Value) : Prop := (v = .slice none 0 0 ∧ n = 0 ∧ xs = []) ∨ ∃ g, QRow w g size v n xs

theorem GR.nil (w : World) (size : Nat) : GR w size (.slice none 0 0) 0 [] := .inl ⟨rfl, rfl, rfl⟩
theorem GR.toGQ {w : World} {v : Value} {n : Nat} {xs : List Value} (h : GR w 1 v n xs) : GQ w v xs := by
  rcases h with ⟨h1, h2, h3⟩ | ⟨g, h⟩
  · exact .inl ⟨h1, h3⟩
  · have := (QRow.open h)
    obtain ⟨_, _, _, _, _, _, _, hl⟩ := this
    exact .inr ⟨g, by rw [hl]; exact h⟩
theorem GQ.toGR {w : World} {v : Value} {xs : List Value} (h : GQ w v xs) : GR w 1 v xs.length xs := by
  rcases h with ⟨h1, h2⟩ | ⟨g, h⟩
  · exact .inl ⟨h1, by simp [h2], h2⟩
  · exact .inr ⟨g, h⟩
theorem GR.later {w w' : World} {size : Nat} {v : Value} {n : Nat} {xs : List Value} (h : GR w size v n xs) (hb : Below w.heap.size w w') : GR w' size v n xs := by
  rcases h with h | ⟨g, h⟩
  · exact .inl h
  · exact .inr ⟨g, h.later hb⟩
theorem GR.lt {w : World} {size : Nat} {v : Value} {n : Nat} {xs : List Value} (h : GR w size v n xs) : ∀ b, v.ownBlock = some b → b < w.heap.size := by
  intro b hb
  rcases h with ⟨rfl, _, _⟩ | ⟨g, off, cap, rfl, _, _, _, _, _, hl⟩
  · simp [Value.ownBlock] at hb
  · simp [Value.ownBlock] at hb
    omega
theorem GR.only {w w' : World} {size : Nat} {v : Value} {n : Nat} {xs : List Value} (h : GR w size v n xs) {B : Nat → Prop} (ho : Only B w w') (hB : ∀ b, v.ownBlock = some b → ¬ B b) : GR w' size v n xs := by
  rcases h with h | ⟨g, h⟩
  · exact .inl h
  · refine .inr ⟨g, h.of_heap (ho.block g (hB g ?_)) ho.size⟩
    obtain ⟨off, cap, rfl, _⟩ := h
    rfl
theorem GR.of_heap {w w' : World} {size : Nat} {v : Value} {n : Nat} {xs : List Value} (h : GR w size v n xs) (hh : ∀ b, v.ownBlock = some b → w'.heap[b]? = w.heap[b]?) (hs : w.heap.size ≤ w'.heap.size) : GR w' size v n xs := by
  rcases h with h | ⟨g, h⟩
  · exact .inl h
  · refine .inr ⟨g, h.of_heap (hh g ?_) hs⟩
    obtain ⟨off, cap, rfl, _⟩ := h
    rfl
theorem GR.open {w : World} {size : Nat} {v : Value} {n : Nat} {xs : List Value} (h : GR w size v n xs) : ∃ a c, v = .slice a n c ∧ n ≤ c ∧ ∀ i u, xs[i]? = some u → ∃ g off, a = some ⟨g, off, none⟩ ∧ g < w.heap.size ∧ w.cell? ⟨g, off + i, none⟩ = some u := by
  rcases h with ⟨rfl, rfl, rfl⟩ | ⟨g, h⟩
  · exact ⟨none, 0, rfl, Nat.le_refl _, fun i u hi => by simp at hi⟩
  · obtain ⟨off, cap, h1, h2, _, _, h5, _, h7⟩ := h
    exact ⟨_, cap, h1, h2, fun i u hi => ⟨g, off, rfl, h7, h5 i u hi⟩⟩

section
variable {P : Program}
theorem gr_run (w : World) {t e : TypeId} {size : Nat} (R : RowType P t e size) {v : Value} {n : Nat} {xs : List Value} (hq : GR w size v n xs) (ty ty2 : TypeId) (news : List Value) (hl : news.length = size) (h1 : ∀ u ∈ news, u.oneCell' = true) (hn : n ≤ 900000000) :
    ∃ v' w', (Builtin.append_ #[t, t] ty #[v, .slice (some ⟨w.heap.size, 0, none⟩) 1 1]).run P (w.alloc (.cells news.toArray ty2)) = .ok v' w' ∧ GR w' size v' (n + 1) (xs ++ news) ∧
      Only (fun k => v.ownBlock = some k ∨ w.heap.size ≤ k) w w' ∧ (∀ b, v'.ownBlock = some b → v.ownBlock = some b ∨ w.heap.size ≤ b) := by
  obtain ⟨i, z, bytes, r1, r2, r3, r4, r5, r6, r7, r8⟩ := R
  have hb : (n + 1) * bytes ≤ 140737488355328 := by
    have := Nat.mul_le_mul (show n + 1 ≤ 1000000001 by omega) r8
    omega
  rcases hq with ⟨rfl, rfl, rfl⟩ | ⟨g, hq⟩
  · have hown : (w.alloc (.cells news.toArray ty2)).ownsRow w.heap.size e size (.slice none 0 0) 0 [] := World.ownsRow_nil _ _ _ _
    obtain ⟨v', w', q1, q2, q3, _⟩ := run_append_own (P := P) (w.alloc (.cells news.toArray ty2)) w.heap.size t ty e i z size bytes r1 r2 r3 r4 r5 r6 r7 (.slice none 0 0) 0 [] hown ⟨w.heap.size, 0, none⟩ 1 1 news (by rw [hl, Nat.one_mul]) new_cells h1 (by unfold maxLen; omega) hb (by simp)
    obtain ⟨g, hg, hq⟩ := QRow.ofOwns q2 (by omega)
    have hbl := ((Below.refl w.heap.size w).alloc (Nat.le_refl _) (.cells news.toArray ty2)).trans (below_of_grown hown q3 (by simp))
    refine ⟨v', w', q1, .inr ⟨g, hq⟩, ⟨hbl.os, hbl.tape, hbl.output, hbl.size, fun k hk => hbl.block k (by
      rcases Nat.lt_or_ge k w.heap.size with h | h
      · exact h
      · exact absurd (.inr h) hk)⟩, fun b hb => ?_⟩
    obtain ⟨off, cap, rfl, _⟩ := hq
    simp [Value.ownBlock] at hb
    omega
  · have hq1 : QRow (w.alloc (.cells news.toArray ty2)) g size v n xs := hq.of_heap (Below.heap_alloc _ _ _ hq.bd) (by simp)
    obtain ⟨v', w', g', q1, q2, q3, q4⟩ := hq1.append (P := P) t ty e i z bytes r1 r2 r3 r4 r5 r6 r7 ⟨w.heap.size, 0, none⟩ 1 1 news (by rw [hl, Nat.one_mul]) (by omega) new_cells h1 (by unfold maxLen; omega) hb
    have hv : v.ownBlock = some g := by obtain ⟨off, cap, rfl, _⟩ := hq; rfl
    refine ⟨v', w', q1, .inr ⟨g', q2⟩, ((Only.refl _ w).alloc (fun k hk => .inr hk) _).trans (q3.mono (fun k hk => ?_)), fun b hb => ?_⟩
    · rcases hk with rfl | hk
      · exact .inl hv
      · simp at hk; exact .inr (by omega)
    · obtain ⟨off, cap, rfl, _⟩ := q2
      simp [Value.ownBlock] at hb
      subst hb
      rcases q4 with rfl | q4
      · exact .inl hv
      · simp at q4; exact .inr (by omega)

/-- One element more. -/
theorem wpList_gr (w : World) {ops : Array Oper} {rest : List Oper} {o : Oper} {a : Act} {Q : Exit → Act → World → Prop} {t e : TypeId} {size : Nat} (R : RowType P t e size) (hgd : o.guard = none) (s x : Operand)
    (ho : o.op = .call { callee := .builtin .append, args := #[s, x], argTypes := #[t, t] }) {v : Value} {n : Nat} {xs : List Value} (hs : a.eval s = v) (hq : GR w size v n xs) (ty : TypeId) (news : List Value)
    (hx : a.eval x = .slice (some ⟨w.heap.size, 0, none⟩) 1 1) (hl : news.length = size) (h1 : ∀ u ∈ news, u.oneCell' = true) (hn : n ≤ 900000000)
    (hK : ∀ v' w', GR w' size v' (n + 1) (xs ++ news) → Only (fun k => v.ownBlock = some k ∨ w.heap.size ≤ k) w w' → (∀ b, v'.ownBlock = some b → v.ownBlock = some b ∨ w.heap.size ≤ b) → wpList P ops Q rest (a.put o.dst v') w') : wpList P ops Q (o :: rest) a (w.alloc (.cells news.toArray ty)) := by
  refine wpList_plain hgd fun _ hK2 => ?_
  obtain ⟨v', w', hr, h2, h3, h4⟩ := gr_run (P := P) w R hq o.type ty news hl h1 hn
  unfold Oper.wp execOp
  simp only [ho, resolve, invoke, builtin, Sem.run_bind, Sem.run_pure, Result.andThen_ok, List.map_toArray, List.map_cons, List.map_nil, hs, hx, hr]
  exact hK2 _ _ (hK v' w' h2 h3 h4)
theorem wp_gr (w : World) {o : Oper} {a : Act} {K : Act → World → Prop} {Q : Exit → Act → World → Prop} {t e : TypeId} {size : Nat} (R : RowType P t e size) (s x : Operand)
    (ho : o.op = .call { callee := .builtin .append, args := #[s, x], argTypes := #[t, t] }) {v : Value} {n : Nat} {xs : List Value} (hs : a.eval s = v) (hq : GR w size v n xs) (ty : TypeId) (news : List Value)
    (hx : a.eval x = .slice (some ⟨w.heap.size, 0, none⟩) 1 1) (hl : news.length = size) (h1 : ∀ u ∈ news, u.oneCell' = true) (hn : n ≤ 900000000)
    (hK : ∀ v' w', GR w' size v' (n + 1) (xs ++ news) → Only (fun k => v.ownBlock = some k ∨ w.heap.size ≤ k) w w' → (∀ b, v'.ownBlock = some b → v.ownBlock = some b ∨ w.heap.size ≤ b) → K (a.put o.dst v') w') : o.wp P a (w.alloc (.cells news.toArray ty)) K Q := by
  obtain ⟨v', w', hr, h2, h3, h4⟩ := gr_run (P := P) w R hq o.type ty news hl h1 hn
  unfold Oper.wp execOp
  simp only [ho, resolve, invoke, builtin, Sem.run_bind, Sem.run_pure, Result.andThen_ok, List.map_toArray, List.map_cons, List.map_nil, hs, hx, hr]
  exact hK v' w' h2 h3 h4
theorem wpListIn_gr {F : Fence} {d : Nat} (w : World) {ops : Array Oper} {rest : List Oper} {o : Oper} {a : Act} {Q : Exit → Act → World → Prop} {t e : TypeId} {size : Nat} (R : RowType P t e size) (hgd : o.guard = none) (s x : Operand)
    (ho : o.op = Op.call { callee := Callee.builtin Builtin.append, args := #[s, x], argTypes := #[t, t] }) {v : Value} {n : Nat} {xs : List Value} (hs : a.eval s = v) (hq : GR w size v n xs) (ty : TypeId) (news : List Value)
    (hx : a.eval x = .slice (some ⟨w.heap.size, 0, none⟩) 1 1) (hl : news.length = size) (h1 : ∀ u ∈ news, u.oneCell' = true) (hn : n ≤ 900000000)
    (hK : ∀ v' w', GR w' size v' (n + 1) (xs ++ news) → Only (fun k => v.ownBlock = some k ∨ w.heap.size ≤ k) w w' → (∀ b, v'.ownBlock = some b → v.ownBlock = some b ∨ w.heap.size ≤ b) → wpListIn F d P ops Q rest (a.put o.dst v') w') : wpListIn F d P ops Q (o :: rest) a (w.alloc (.cells news.toArray ty)) := by
  refine wpListIn_plain hgd fun K hK' => ?_
  obtain ⟨v', w', hrun, h2, h3, h4⟩ := gr_run (P := P) w R hq o.type ty news hl h1 hn
  unfold Oper.wpIn
  refine ⟨?_, ?_⟩
  · simp [Oper.about, ho, resolve, Target.leads, Sem.run_pure]
  · rw [Oper.semAt_plain F _ _ (by rw [ho]; intro c hc'; cases hc')]
    simp [execOp, ho, resolve, invoke, builtin, hs, hx, hrun, Result.andThen]
    exact hK' _ _ (hK v' w' h2 h3 h4)
end
end Go.Proofs.YtfdklmpkienfhaaGreat
