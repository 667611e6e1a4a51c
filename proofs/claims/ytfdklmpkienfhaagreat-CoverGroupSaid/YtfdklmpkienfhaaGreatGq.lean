/- A list that grows from nothing. -/
import Derived.Test.YtfdklmpkienfhaaGreatInts
namespace Go.Proofs.YtfdklmpkienfhaaGreat
set_option linter.unusedSimpArgs false
set_option linter.unusedVariables false
open Go.RowKit

/-- A list of values of one cell: none yet, or a row of the call's own. -/
def GQ (w : World) (v : Value) (xs : List Value) : Prop := (v = .slice none 0 0 ∧ xs = []) ∨ ∃ g, QRow w g 1 v xs.length xs

theorem GQ.later {w w' : World} {v : Value} {xs : List Value} (h : GQ w v xs) (hb : Below w.heap.size w w') : GQ w' v xs := by
  rcases h with h | ⟨g, h⟩
  · exact .inl h
  · exact .inr ⟨g, h.later hb⟩

section
variable {P : Program}
theorem wpList_gq1 (w : World) {ops : Array Oper} {rest : List Oper} {o : Oper} {a : Act} {Q : Exit → Act → World → Prop} {t e : TypeId} (R : RowType P t e 1) (hgd : o.guard = none) (s x : Operand)
    (ho : o.op = .call { callee := .builtin .append, args := #[s, x], argTypes := #[t, t] }) {v : Value} {xs : List Value} (hs : a.eval s = v) (hq : GQ w v xs) (ty : TypeId) (u : Value)
    (hx : a.eval x = .slice (some ⟨w.heap.size, 0, none⟩) 1 1) (h1 : u.oneCell' = true) (hn : xs.length ≤ 900000000)
    (hK : ∀ v' w', GQ w' v' (xs ++ [u]) → Only (fun k => v.ownBlock = some k ∨ w.heap.size ≤ k) w w' → (∀ b, v'.ownBlock = some b → v.ownBlock = some b ∨ w.heap.size ≤ b) → wpList P ops Q rest (a.put o.dst v') w') : wpList P ops Q (o :: rest) a (w.alloc (.cells #[u] ty)) := by
  rcases hq with ⟨rfl, rfl⟩ | ⟨g, hq⟩
  · have hown : w.ownsRow w.heap.size e 1 (.slice none 0 0) 0 [] := World.ownsRow_nil _ _ _ _
    refine wpList_grow1 w R hgd s x ho (base := w.heap.size) hs hown ty [u] hx rfl (fun y hy => by simp at hy; subst hy; exact h1) (by omega) (Nat.le_refl _) ?_
    intro v' w' h2 h3
    obtain ⟨g, hg, hq⟩ := QRow.ofOwns h2 (by omega)
    refine hK v' w' (.inr ⟨g, hq⟩) ⟨h3.os, h3.tape, h3.output, h3.size, fun k hk => h3.block k (by
      rcases Nat.lt_or_ge k w.heap.size with h | h
      · exact h
      · exact absurd (.inr h) hk)⟩ (fun b hb => ?_)
    obtain ⟨off, cap, rfl, _⟩ := hq
    simp [Value.ownBlock] at hb
    omega
  · refine wpList_queueSrc_grow1 R hgd s x ho hs hq 1 [u] ty hx rfl (fun y hy => by simp at hy; subst hy; exact h1) (by omega) ?_
    intro v' w' g' h2 h3 h4
    have hv : v.ownBlock = some g := by obtain ⟨off, cap, rfl, _⟩ := hq; rfl
    refine hK v' w' (.inr ⟨g', by simpa using h2⟩) (h3.mono (fun k hk => by
      rcases hk with rfl | hk
      · exact .inl hv
      · exact .inr hk)) (fun b hb => ?_)
    obtain ⟨off, cap, rfl, _⟩ := h2
    simp [Value.ownBlock] at hb
    subst hb
    rcases h4 with rfl | h4
    · exact .inl hv
    · exact .inr h4
end

theorem GQ.open {w : World} {v : Value} {xs : List Value} (h : GQ w v xs) : ∃ a c, v = .slice a xs.length c ∧ ∀ i u, xs[i]? = some u → ∃ g off, a = some ⟨g, off, none⟩ ∧ w.cell? ⟨g, off + i, none⟩ = some u := by
  rcases h with ⟨rfl, rfl⟩ | ⟨g, h⟩
  · exact ⟨none, 0, rfl, fun i u hi => by simp at hi⟩
  · obtain ⟨off, cap, h1, h2, _⟩ := QRow.open h
    exact ⟨_, cap, h1, fun i u hi => ⟨g, off, rfl, h2 i u hi⟩⟩

theorem GQ.lt {w : World} {v : Value} {xs : List Value} (h : GQ w v xs) : ∀ b, v.ownBlock = some b → b < w.heap.size := by
  intro b hb
  rcases h with ⟨rfl, _⟩ | ⟨g, off, cap, rfl, _, _, _, _, _, hl⟩
  · simp [Value.ownBlock] at hb
  · simp [Value.ownBlock] at hb
    omega

theorem GQ.only {w w' : World} {v : Value} {xs : List Value} (h : GQ w v xs) {B : Nat → Prop} (ho : Only B w w') (hB : ∀ b, v.ownBlock = some b → ¬ B b) : GQ w' v xs := by
  rcases h with h | ⟨g, h⟩
  · exact .inl h
  · refine .inr ⟨g, h.of_heap (ho.block g (hB g ?_)) ho.size⟩
    obtain ⟨off, cap, rfl, _⟩ := h
    rfl

theorem rowInt : RowType Tryz.prog 24 3 1 := rowType_of (z := .int .i64 0) Tryz.underlying24 infoInt rfl (by decide) (by decide)
theorem rowStr : RowType Tryz.prog 28 9 1 := rowType_of (z := .string ⟨#[]⟩) Tryz.underlying28 (bytes := 16) (by kernel_rfl) rfl (by decide) (by decide)
end Go.Proofs.YtfdklmpkienfhaaGreat
