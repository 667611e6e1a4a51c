/- Plain Lean, no program: without walls the way is the normal word of the inverse and the goal. -/
import Derived.Test.YtcbbmpoamjcmeaaBfsLaw
namespace Go.Proofs.Ytcbbmpoamjcmeaa
set_option linter.unusedSimpArgs false
set_option linter.unusedVariables false
open Hy (Lets IsNF Eqv Le)

theorem exists_nf {o : Hy.Ord} (F : Hy.Fine o) {w : Word} (hw : Lets w) : ∃ n, IsNF o w n := by
  obtain ⟨G, y, _, I, _, h, _⟩ := Hy.walk_ok F (lim := w.length) (fuel := w.length) w Hy.start 0 (Hy.inv_start o) (by simp [Hy.start]) hw (by rw [show Hy.wd Hy.start 0 = [] from rfl]; simp) (by rw [show Hy.wd Hy.start 0 = [] from rfl]; simp)
  exact ⟨_, Hy.nf_of_leads F I hw h⟩

theorem lets_nf {o : Hy.Ord} (F : Hy.Fine o) {w n : Word} (h : IsNF o w n) (hw : Lets w) : Lets n := (Hy.same_tile F h.eqv).1.2 hw

theorem free_all {o : Hy.Ord} (F : Hy.Fine o) {su : Word} (hsu : Lets su) : ∀ n (w : Word), w.length = n → Lets w → Unwalled o (fun _ _ => false) su w
  | 0, w, hw, _ => by
    cases w with
    | nil => exact .nil
    | cons c w => cases hw
  | n + 1, w, hw, hl => by
    rcases List.eq_nil_or_concat w with rfl | ⟨a, c, rfl⟩
    · cases hw
    rw [List.concat_eq_append] at hw hl ⊢
    obtain ⟨la, lc⟩ := Lets.app.1 hl
    obtain ⟨t, ht⟩ := exists_nf F (Lets.app.2 ⟨hsu, la⟩)
    obtain ⟨nx, hnx⟩ := exists_nf F (Lets.app.2 ⟨hsu, hl⟩)
    rw [← Hy.ofNat_toNat] at hnx ⊢
    exact .snoc (free_all F hsu n a (by simpa using hw) la) (lc c (by simp)) ht hnx rfl

/-- The statement of the law, of plain words. -/
theorem free_way {o : Hy.Ord} (F : Hy.Fine o) {u v nu nv want : Word} (hu : Lets u) (hv : Lets v) (h1 : IsNF o u nu) (h2 : IsNF o v nv) (h3 : IsNF o (u.reverse ++ v) want) {xs : Places}
    (hx : ∀ goal, (∀ p, (xs.find? (fun p => p.1 == goal)).map (·.2) = some p → Unwalled o (fun _ _ => false) nu p ∧ Lets p ∧ p.length ≤ 10 ∧ IsNF o (nu ++ p) goal ∧ ∀ w, Unwalled o (fun _ _ => false) nu w → Lets w → w.length ≤ 10 → IsNF o (nu ++ w) goal → Le p w) ∧
      ((xs.find? (fun p => p.1 == goal)).map (·.2) = none → ∀ w, Unwalled o (fun _ _ => false) nu w → Lets w → w.length ≤ 10 → ¬ IsNF o (nu ++ w) goal)) :
    (xs.find? (fun p => p.1 == nv)).map (·.2) = if 10 < want.length then none else some want := by
  have hnu := lets_nf F h1 hu
  have hru : Lets u.reverse := fun c hc => hu c (List.mem_reverse.1 hc)
  have hwant := lets_nf F h3 (Lets.app.2 ⟨hru, hv⟩)
  have key : ∀ w, IsNF o (nu ++ w) nv ↔ Eqv o w (u.reverse ++ v) := by
    intro w
    have e1 : Eqv o (nu ++ w) (u ++ w) := h1.eqv.right w
    have e2 : Eqv o (u ++ (u.reverse ++ v)) v := by
      have := (Eqv.inv (o := o) hu).2.right v
      simpa using this
    constructor
    · intro h
      have h4 : Eqv o (u ++ w) (u ++ (u.reverse ++ v)) := (e1.symm.trans (h.eqv.symm.trans h2.eqv)).trans e2.symm
      exact (Eqv.cancel hu).1 h4
    · intro h
      exact h2.congr ((e1.trans ((Eqv.cancel hu).2 h)).trans e2).symm
  obtain ⟨g1, g2⟩ := hx nv
  cases hw : (xs.find? (fun p => p.1 == nv)).map (·.2) with
  | none =>
    by_cases hl : 10 < want.length
    · rw [if_pos hl]
    · exact absurd ((key want).2 h3.eqv) (g2 hw want (free_all F hnu _ _ rfl hwant) hwant (by omega))
  | some p =>
    obtain ⟨a1, a2, a3, a4, a5⟩ := g1 p hw
    have b1 := h3.least p ((key p).1 a4)
    have hl := b1.len
    rw [if_neg (by omega)]
    have b2 := a5 want (free_all F hnu _ _ rfl hwant) hwant (by omega) ((key want).2 h3.eqv)
    rw [b2.antisymm b1]
end Go.Proofs.Ytcbbmpoamjcmeaa
