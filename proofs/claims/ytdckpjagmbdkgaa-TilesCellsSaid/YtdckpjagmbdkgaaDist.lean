/- Plain Lean: the distance of tiles. -/
import Derived.Test.YtdckpjagmbdkgaaCorn
set_option linter.unusedSimpArgs false
set_option linter.unusedVariables false
namespace Hy

theorem eqv_par {o : Ord} {u v : Word} (h : Eqv o u v) : u.length % 2 = v.length % 2 := by
  induction h with
  | refl w => rfl
  | symm _ ih => exact ih.symm
  | trans _ _ ih1 ih2 => exact ih1.trans ih2
  | two p q hs => simp [letter]; omega
  | turn p q ha hb hab hm => simp [V_length]; omega

theorem Eqv.rev {o : Ord} {u v : Word} (h : Eqv o u v) : Eqv o u.reverse v.reverse := by
  induction h with
  | refl w => exact .refl _
  | symm _ ih => exact .symm ih
  | trans _ _ ih1 ih2 => exact .trans ih1 ih2
  | two p q hs =>
    have := Eqv.two (o := o) q.reverse p.reverse hs
    simpa [letter] using this
  | turn p q ha hb hab hm =>
    rename_i a b
    have := Eqv.turn (o := o) q.reverse p.reverse hb ha hab.symm (by rw [o.m_comm]; exact hm)
    rw [List.reverse_append, List.reverse_append, List.reverse_append, V_rev, if_pos (by omega), o.m_comm a b, ← List.append_assoc]
    exact this

theorem lets_revW {w : Word} (h : Lets w) : Lets w.reverse := fun c hc => h c (List.mem_reverse.1 hc)
theorem nfw_is {o : Ord} (F : Fine o) {w : Word} (hw : Lets w) (hl : w.length ≤ 1000) : IsNF o w (nfw o w) := by
  obtain ⟨n, h1, h2⟩ := norm_ok F (fuel := 1000) hw hl hl
  unfold nfw
  rw [h1, Option.getD_some]
  exact h2

/-- The distance. -/
def farW (o : Ord) (u v : Word) : Nat := (nfw o (u.reverse ++ v)).length

theorem nf_rev {o : Ord} {w n n' : Word} (h : IsNF o w n) (h' : IsNF o w.reverse n') : n.length = n'.length := by
  have h1 := (h'.least _ h.eqv.rev).len
  have h2 := (h.least n'.reverse (by simpa using h'.eqv.rev)).len
  simp at h1 h2
  omega

section
variable {o : Ord} (F : Fine o)
include F

theorem far_symm {u v : Word} (hu : Lets u) (hv : Lets v) (hl : u.length + v.length ≤ 1000) : farW o v u = farW o u v := by
  have h1 := nfw_is F (w := u.reverse ++ v) (Lets.app.2 ⟨lets_revW hu, hv⟩) (by simp; omega)
  have h2 := nfw_is F (w := v.reverse ++ u) (Lets.app.2 ⟨lets_revW hv, hu⟩) (by simp; omega)
  unfold farW
  exact (nf_rev h1 (by simpa using h2)).symm

theorem far_zero {u v : Word} (hu : Lets u) (hv : Lets v) (hl : u.length + v.length ≤ 1000) : farW o u v = 0 ↔ nfw o u = nfw o v := by
  have h1 := nfw_is F (w := u.reverse ++ v) (Lets.app.2 ⟨lets_revW hu, hv⟩) (by simp; omega)
  have hu1 := nfw_is F hu (by omega)
  have hv1 := nfw_is F hv (by omega)
  have hn : IsNF o [] [] := ⟨.refl _, fun w' _ => by
    cases w' with
    | nil => exact Le.refl _
    | cons c w' => exact .inl (by simp)⟩
  unfold farW
  rw [List.length_eq_zero_iff, h1.eq_iff hn, hu1.eq_iff hv1]
  constructor
  · intro h
    have h3 := h.left u
    rw [List.append_nil, ← List.append_assoc] at h3
    have h4 := (Eqv.inv (o := o) hu).2.right v
    rw [List.nil_append] at h4
    exact h3.symm.trans h4
  · intro h
    exact (h.symm.left u.reverse).trans (Eqv.inv (o := o) hu).1

theorem far_tri {u v w : Word} (hu : Lets u) (hv : Lets v) (hw : Lets w) (h1 : u.length + v.length ≤ 1000) (h2 : u.length + w.length ≤ 1000) (h3 : w.length + v.length ≤ 1000) : farW o u v ≤ farW o u w + farW o w v := by
  have k1 := nfw_is F (w := u.reverse ++ v) (Lets.app.2 ⟨lets_revW hu, hv⟩) (by simp; omega)
  have k2 := nfw_is F (w := u.reverse ++ w) (Lets.app.2 ⟨lets_revW hu, hw⟩) (by simp; omega)
  have k3 := nfw_is F (w := w.reverse ++ v) (Lets.app.2 ⟨lets_revW hw, hv⟩) (by simp; omega)
  have e1 : Eqv o (nfw o (u.reverse ++ w) ++ nfw o (w.reverse ++ v)) (u.reverse ++ w ++ (w.reverse ++ v)) := (k2.eqv.right _).trans (k3.eqv.left _)
  have e2 : Eqv o (u.reverse ++ w ++ (w.reverse ++ v)) (u.reverse ++ v) := by
    have := (Eqv.inv (o := o) hw).2.ctx u.reverse v
    simpa using this
  have := (k1.least _ (e1.trans e2)).len
  rw [List.length_append] at this
  exact this

theorem far_moved {u v w : Word} (hu : Lets u) (hv : Lets v) (hw : Lets w) (hl : (w ++ u).length + (w ++ v).length ≤ 1000) : farW o (w ++ u) (w ++ v) = farW o u v := by
  simp only [List.length_append] at hl
  have k1 := nfw_is F (w := u.reverse ++ v) (Lets.app.2 ⟨lets_revW hu, hv⟩) (by simp; omega)
  have k2 := nfw_is F (w := (w ++ u).reverse ++ (w ++ v)) (Lets.app.2 ⟨lets_revW (Lets.app.2 ⟨hw, hu⟩), Lets.app.2 ⟨hw, hv⟩⟩) (by simp; omega)
  have e : Eqv o ((w ++ u).reverse ++ (w ++ v)) (u.reverse ++ v) := by
    have := (Eqv.inv (o := o) hw).1.ctx u.reverse v
    simpa using this
  unfold farW
  rw [(k2.congr e).uniq k1]

theorem far_one {u : Word} (hu : Lets u) {s : Nat} (hs : s < 3) (hl : u.length ≤ 400) : farW o u (u ++ letter s) = 1 := by
  have hL : Lets (u.reverse ++ (u ++ letter s)) := Lets.app.2 ⟨lets_revW hu, Lets.app.2 ⟨hu, lets_letter hs⟩⟩
  have k1 := nfw_is F hL (by simp [letter]; omega)
  have e : Eqv o (u.reverse ++ (u ++ letter s)) (letter s) := by
    have := (Eqv.inv (o := o) hu).1.right (letter s)
    simpa using this
  have h1 := (k1.least _ e.symm).len
  have h2 := eqv_par (k1.eqv.trans e)
  unfold farW
  simp [letter] at h1 h2 ⊢
  omega
end
end Hy
