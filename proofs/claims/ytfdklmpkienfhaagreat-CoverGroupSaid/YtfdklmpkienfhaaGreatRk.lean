/- Plain Lean: the place of a word among all words. -/
import Derived.Test.YtfdklmpkienfhaaGreatNf
set_option linter.unusedSimpArgs false
set_option linter.unusedVariables false
namespace Cov
open Hy (Word Lets Le)
/-- The place of a word among all words. -/
def rk (w : Word) : Nat := w.foldl (fun n c => 3 * n + c.toNat + 1) 0

theorem rk_snoc (w : Word) {c : Nat} (hc : c < 3) : rk (w ++ Hy.letter c) = 3 * rk w + c + 1 := by
  have : (UInt8.ofNat c).toNat = c := by simp only [UInt8.toNat_ofNat']; omega
  unfold rk Hy.letter
  rw [List.foldl_append]
  simp only [List.foldl_cons, List.foldl_nil, this]

theorem rk_bound : ∀ n (w : Word), w.length = n → Lets w → 3 ^ n ≤ 2 * rk w + 1 ∧ 2 * rk w + 3 ≤ 3 ^ (n + 1)
  | 0, w, hw, _ => by
    cases w with
    | nil => exact ⟨by simp [rk], by simp [rk]⟩
    | cons c w => cases hw
  | n + 1, w, hw, hl => by
    rcases List.eq_nil_or_concat w with rfl | ⟨a, c, rfl⟩
    · cases hw
    rw [List.concat_eq_append] at hw hl ⊢
    obtain ⟨h1, h2⟩ := rk_bound n a (by simpa using hw) (Lets.app.1 hl).1
    have hc := (Lets.app.1 hl).2 c (by simp)
    have h3 := rk_snoc a hc
    rw [Hy.ofNat_toNat] at h3
    rw [h3, Nat.pow_succ, Nat.pow_succ]
    rw [Nat.pow_succ] at h2
    rw [Nat.pow_succ] 
    omega

theorem rk_len {a b : Word} (ha : Lets a) (hb : Lets b) (h : rk a ≤ rk b) : a.length ≤ b.length := by
  rcases Nat.lt_or_ge b.length a.length with hl | hl
  · exfalso
    have h1 := (rk_bound _ a rfl ha).1
    have h2 := (rk_bound _ b rfl hb).2
    have : 3 ^ (b.length + 1) ≤ 3 ^ a.length := Nat.pow_le_pow_right (by omega) hl
    omega
  · exact hl

theorem rk_ten {a : Word} (ha : Lets a) (h : a.length ≤ 10) : rk a < 88573 := by
  have h2 := (rk_bound _ a rfl ha).2
  have : 3 ^ (a.length + 1) ≤ 3 ^ 11 := Nat.pow_le_pow_right (by omega) (by omega)
  have h3 : (3 : Nat) ^ 11 = 177147 := by decide
  omega

/-- The order of places is that of words. -/
theorem rk_le {a b : Word} (ha : Lets a) (hb : Lets b) (h : rk a ≤ rk b) : Le a b := by
  have hl := rk_len ha hb h
  rcases Nat.lt_or_ge a.length b.length with h1 | h1
  · exact .inl h1
  · refine .inr ⟨by omega, ?_⟩
    have key : ∀ (a b : Word) (m n : Nat), a.length = b.length → Lets a → Lets b → (n < m ∨ (n = m ∧ Hy.less b a = true)) → b.foldl (fun n c => 3 * n + c.toNat + 1) n < a.foldl (fun n c => 3 * n + c.toNat + 1) m := by
      intro a
      induction a with
      | nil =>
        intro b m n hab _ _ hx
        cases b with
        | nil => rcases hx with hx | ⟨_, hx⟩; exact hx; cases hx
        | cons _ _ => cases hab
      | cons x a ih =>
        intro b m n hab ha hb hx
        cases b with
        | nil => cases hab
        | cons y b =>
          have hx3 : x.toNat < 3 := ha x List.mem_cons_self
          have hy3 : y.toNat < 3 := hb y List.mem_cons_self
          refine ih b (3 * m + x.toNat + 1) (3 * n + y.toNat + 1) (Nat.succ.inj hab) (fun c hc => ha c (List.mem_cons_of_mem _ hc)) (fun c hc => hb c (List.mem_cons_of_mem _ hc)) ?_
          rcases hx with hx | ⟨hx, hy⟩
          · exact .inl (by omega)
          · unfold Hy.less at hy
            simp only [Bool.or_eq_true, Bool.and_eq_true, decide_eq_true_eq, beq_iff_eq, UInt8.lt_iff_toNat_lt] at hy
            rcases hy with hy | ⟨rfl, hy⟩
            · exact .inl (by omega)
            · exact .inr ⟨by omega, hy⟩
    cases hless : Hy.less b a with
    | false => rfl
    | true =>
      have := key a b 0 0 (by omega) ha hb (.inr ⟨rfl, hless⟩)
      unfold rk at h
      omega

theorem le_rk {a b : Word} (ha : Lets a) (hb : Lets b) (h : Le a b) : rk a ≤ rk b := by
  rcases Nat.lt_or_ge (rk b) (rk a) with h1 | h1
  · have := rk_le hb ha (Nat.le_of_lt h1)
    rw [h.antisymm this] at h1
    omega
  · exact h1

end Cov
