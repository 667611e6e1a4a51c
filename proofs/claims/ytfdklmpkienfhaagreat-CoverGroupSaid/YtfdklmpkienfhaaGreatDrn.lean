/- No operation takes back what has been drawn. -/
import Derived.Test.YtfdklmpkienfhaaGreatGr
namespace Go.Proofs.YtfdklmpkienfhaaGreat
set_option linter.unusedSimpArgs false
set_option linter.unusedVariables false
open Go.RowKit

theorem ask_drawn {α : Type} : ∀ (q : Ask α) (w : World), w.drawn ≤ (w.ask q).2.drawn
  | .done a, w => Nat.le_refl _
  | .ask what range k, w => by
    unfold World.ask
    simp only
    split
    · exact ask_drawn (k 0) w
    · exact Nat.le_trans (Nat.le_succ w.drawn) (ask_drawn (k _) { w with drawn := w.drawn + 1 })

theorem sys_drawn (w : World) (c : Sys) : w.drawn ≤ (w.sys c).2.drawn := by
  have h := ask_drawn (Kernel.perform c w.os) w
  unfold World.sys
  split
  · exact Nat.le_refl _
  · rename_i r os w1 _ heq
    rw [heq] at h
    exact h

theorem viewStore_drawn (p : Program) (w : World) (a b : Addr) (t : TypeId) (v : Value) (atomic : Bool) {w' : World} {l : List Addr} (h : w.viewStore p a t b v atomic = .ok (w', l)) : w'.drawn = w.drawn := by
  unfold World.viewStore at h
  simp only [bind, Except.bind, pure, Except.pure, throw, throwThe, MonadExceptOf.throw] at h
  repeat' (split at h)
  all_goals first
    | (cases h; done)
    | (simp only [Except.ok.injEq, Prod.mk.injEq] at h
       obtain ⟨h1, _⟩ := h
       rw [← h1])

theorem run_drawn {α : Type} {p : Program} : ∀ (s : Sem α) (w : World) {v : α} {w' : World}, s.run p w = .ok v w' → w.drawn ≤ w'.drawn
  | .pure a, w, v, w', h => by
    simp only [Sem.run, Result.ok.injEq] at h
    rw [h.2]
    exact Nat.le_refl _
  | .load m a k, w, v, w', h => by
    unfold Sem.run at h
    split at h
    · exact run_drawn (k _) w h
    · split at h
      · exact run_drawn (k _) w h
      · cases h
  | .store m a u k, w, v, w', h => by
    cases u <;> first
      | (simp only [Sem.run] at h; cases h)
      | (simp only [Sem.run] at h
         split at h
         · split at h
           · cases h
           · have h3 := run_drawn k _ h
             exact h3
         · split at h
           · rename_i w1 _ heq
             have h2 : w1.drawn = w.drawn := by
               unfold World.farStore at heq
               split at heq
               · split at heq
                 · rename_i hv
                   rw [Except.ok.injEq] at heq
                   subst heq
                   exact viewStore_drawn _ _ _ _ _ _ _ hv
                 · cases heq
               · cases heq
             rw [← h2]
             exact run_drawn k _ h
           · cases h)
  | .new o k, w, v, w', h => run_drawn (k _) { w with heap := w.heap.push o } h
  | .shape r k, w, v, w', h => run_drawn (k _) w h
  | .freeze a n k, w, v, w', h => by
    have := run_drawn k (w.freeze a n) h
    unfold World.freeze at this
    split at this <;> exact this
  | .frozen a k, w, v, w', h => run_drawn (k _) w h
  | .getObj r k, w, v, w', h => by
    unfold Sem.run at h
    split at h
    · cases h
    · exact run_drawn (k _) w h
    · cases h
  | .setObj r o k, w, v, w', h => by
    unfold Sem.run at h
    split at h
    · cases h
    · have h3 := run_drawn k { w with heap := w.heap.setIfInBounds r o } h
      exact h3
    · cases h
  | .choose q k, w, v, w', h => by
    unfold Sem.run at h
    split at h
    · exact run_drawn (k 0) w h
    · exact Nat.le_trans (Nat.le_succ w.drawn) (run_drawn (k _) { w with drawn := w.drawn + 1 } h)
  | .sys c k, w, v, w', h => Nat.le_trans (sys_drawn w c) (run_drawn (k _) _ h)
  | .program k, w, v, w', h => run_drawn (k p) w h
  | .mark _ k, w, v, w', h => run_drawn k w h
  | .halt h0, w, v, w', h => by simp only [Sem.run] at h; cases h

section
variable {P : Program}
/-- One element more; what is drawn stays drawn. -/
theorem wpList_grD (w : World) {ops : Array Oper} {rest : List Oper} {o : Oper} {a : Act} {Q : Exit → Act → World → Prop} {t e : TypeId} {size : Nat} (R : RowType P t e size) (hgd : o.guard = none) (s x : Operand)
    (ho : o.op = .call { callee := .builtin .append, args := #[s, x], argTypes := #[t, t] }) {v : Value} {n : Nat} {xs : List Value} (hs : a.eval s = v) (hq : GR w size v n xs) (ty : TypeId) (news : List Value)
    (hx : a.eval x = .slice (some ⟨w.heap.size, 0, none⟩) 1 1) (hl : news.length = size) (h1 : ∀ u ∈ news, u.oneCell' = true) (hn : n ≤ 900000000)
    (hK : ∀ v' w', GR w' size v' (n + 1) (xs ++ news) → Only (fun k => v.ownBlock = some k ∨ w.heap.size ≤ k) w w' → (∀ b, v'.ownBlock = some b → v.ownBlock = some b ∨ w.heap.size ≤ b) → w.drawn ≤ w'.drawn → wpList P ops Q rest (a.put o.dst v') w') : wpList P ops Q (o :: rest) a (w.alloc (.cells news.toArray ty)) := by
  refine wpList_plain hgd fun _ hK2 => ?_
  obtain ⟨v', w', hr, h2, h3, h4⟩ := gr_run (P := P) w R hq o.type ty news hl h1 hn
  have hd := run_drawn _ _ hr
  unfold Oper.wp execOp
  simp only [ho, resolve, invoke, builtin, Sem.run_bind, Sem.run_pure, Result.andThen_ok, List.map_toArray, List.map_cons, List.map_nil, hs, hx, hr]
  exact hK2 _ _ (hK v' w' h2 h3 h4 hd)
end
end Go.Proofs.YtfdklmpkienfhaaGreat
