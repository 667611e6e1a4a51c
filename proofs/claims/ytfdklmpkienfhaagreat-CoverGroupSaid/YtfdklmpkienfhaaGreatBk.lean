/- Plain Lean: the lists that lead back, in the order in which the program makes them. -/
import Derived.Test.YtfdklmpkienfhaaGreatAct
set_option linter.unusedSimpArgs false
set_option linter.unusedVariables false
namespace Cov

/-- Two places of a list are led to each other. -/
def pairUp (L : List Int) (x y : Nat) : List Int := (L.set x y).set y x
/-- All ways to fill the last r places of a list of n. -/
def fillL (n : Nat) : Nat → List Int → List (List Int)
  | 0, L => [L]
  | r + 1, L => if 0 ≤ L.getD (n - (r + 1)) 0 then fillL n r L else
      (List.range (r + 1)).flatMap fun d => if 0 ≤ L.getD (n - (r + 1) + d) 0 then [] else fillL n r (pairUp L (n - (r + 1)) (n - (r + 1) + d))
/-- .. with the first d partners of the next place. -/
def fillP (n r : Nat) (L : List Int) (d : Nat) : List (List Int) := (List.range d).flatMap fun d => if 0 ≤ L.getD (n - (r + 1) + d) 0 then [] else fillL n r (pairUp L (n - (r + 1)) (n - (r + 1) + d))
theorem fillP_zero (n r : Nat) (L : List Int) : fillP n r L 0 = [] := by simp [fillP]
theorem fillP_succ (n r : Nat) (L : List Int) (d : Nat) : fillP n r L (d + 1) = fillP n r L d ++ (if 0 ≤ L.getD (n - (r + 1) + d) 0 then [] else fillL n r (pairUp L (n - (r + 1)) (n - (r + 1) + d))) := by
  unfold fillP
  rw [List.range_succ, List.flatMap_append]
  simp
theorem fillL_fixed {n r : Nat} {L : List Int} (h : 0 ≤ L.getD (n - (r + 1)) 0) : fillL n (r + 1) L = fillL n r L := by rw [fillL, if_pos h]
theorem fillL_free {n r : Nat} {L : List Int} (h : ¬ 0 ≤ L.getD (n - (r + 1)) 0) : fillL n (r + 1) L = fillP n r L (r + 1) := by rw [fillL, if_neg h]; rfl
theorem fillP_pre {n r : Nat} {L : List Int} {d e : Nat} (h : d ≤ e) : ∃ T, fillP n r L e = fillP n r L d ++ T := by
  induction e with
  | zero => obtain rfl : d = 0 := by omega
            exact ⟨[], by simp⟩
  | succ e ih =>
    rcases Nat.lt_or_ge d (e + 1) with h1 | h1
    · obtain ⟨T, hT⟩ := ih (by omega)
      rw [fillP_succ, hT, List.append_assoc]
      exact ⟨_, rfl⟩
    · obtain rfl : d = e + 1 := by omega
      exact ⟨[], by simp⟩
/-- The lists of n points that lead back. -/
def backsL (n : Nat) : List (List Int) := fillL n n (List.replicate n (-1))

theorem getD_set (L : List Int) (i j : Nat) (x : Int) (hi : i < L.length) : (L.set i x).getD j 0 = if i = j then x else L.getD j 0 := by
  simp only [List.getD, List.getElem?_set]
  by_cases h : i = j
  · subst h; simp [hi]
  · simp [h]
theorem pairUp_len (L : List Int) (x y : Nat) : (pairUp L x y).length = L.length := by simp [pairUp]
theorem pairUp_at {L : List Int} {x y : Nat} (hx : x < L.length) (hy : y < L.length) (k : Nat) : (pairUp L x y).getD k 0 = if y = k then (x : Int) else if x = k then (y : Int) else L.getD k 0 := by
  unfold pairUp
  rw [getD_set _ _ _ _ (by simpa using hy), getD_set _ _ _ _ hx]
/-- Taken apart again. -/
theorem pairUp_undo {L : List Int} {x y : Nat} (hx : x < L.length) (hy : y < L.length) (h1 : L.getD x 0 = -1) (h2 : L.getD y 0 = -1) : ((pairUp L x y).set x (-1)).set y (-1) = L := by
  apply List.ext_getElem?
  intro i
  by_cases hi : i < L.length
  · have e : ∀ (M : List Int), M.length = L.length → M[i]? = some (M.getD i 0) := fun M hM => by simp [List.getD, List.getElem?_eq_getElem (show i < M.length by omega)]
    rw [e _ (by simp [pairUp_len]), e _ rfl]
    congr 1
    rw [getD_set _ _ _ _ (by simp [pairUp_len]; exact hy), getD_set _ _ _ _ (by rw [pairUp_len]; exact hx), pairUp_at hx hy]
    by_cases e1 : y = i
    · subst e1; rw [if_pos rfl, h2]
    · by_cases e2 : x = i
      · subst e2; rw [if_neg e1, if_pos rfl, h1]
      · rw [if_neg e1, if_neg e2, if_neg e1, if_neg e2]
  · rw [List.getElem?_eq_none (by simp [pairUp_len]; omega), List.getElem?_eq_none (by omega)]

/-- What is filled holds places. -/
theorem fill_range {n : Nat} : ∀ (r : Nat) (L : List Int), r ≤ n → L.length = n → (∀ k, k < n → L.getD k 0 = -1 ∨ (0 ≤ L.getD k 0 ∧ L.getD k 0 < (n : Int))) → (∀ k, k < n - r → 0 ≤ L.getD k 0) →
    ∀ M ∈ fillL n r L, M.length = n ∧ ∀ k, k < n → 0 ≤ M.getD k 0 ∧ M.getD k 0 < (n : Int)
  | 0, L, _, hl, h1, h2, M, hM => by
    simp only [fillL, List.mem_singleton] at hM
    subst hM
    refine ⟨hl, fun k hk => ?_⟩
    have := h2 k (by omega)
    rcases h1 k hk with h | h
    · omega
    · exact h
  | r + 1, L, hr, hl, h1, h2, M, hM => by
    by_cases h0 : 0 ≤ L.getD (n - (r + 1)) 0
    · rw [fillL_fixed h0] at hM
      refine fill_range r L (by omega) hl h1 (fun k hk => ?_) M hM
      rcases Nat.lt_or_ge k (n - (r + 1)) with h | h
      · exact h2 k h
      · obtain rfl : k = n - (r + 1) := by omega
        exact h0
    · rw [fillL_free h0] at hM
      unfold fillP at hM
      rw [List.mem_flatMap] at hM
      obtain ⟨d, hd, hM⟩ := hM
      rw [List.mem_range] at hd
      by_cases hy : 0 ≤ L.getD (n - (r + 1) + d) 0
      · rw [if_pos hy] at hM; simp at hM
      · rw [if_neg hy] at hM
        have hx : n - (r + 1) < L.length := by omega
        have hy2 : n - (r + 1) + d < L.length := by omega
        refine fill_range r _ (by omega) (by rw [pairUp_len]; exact hl) (fun k hk => ?_) (fun k hk => ?_) M hM
        · rw [pairUp_at hx hy2]
          split
          · exact .inr ⟨by omega, by omega⟩
          · split
            · exact .inr ⟨by omega, by omega⟩
            · exact h1 k hk
        · rw [pairUp_at hx hy2]
          split
          · omega
          · split
            · omega
            · exact h2 k (by omega)
theorem backs_range {n : Nat} {M : List Int} (h : M ∈ backsL n) : M.length = n ∧ ∀ k, k < n → 0 ≤ M.getD k 0 ∧ M.getD k 0 < (n : Int) :=
  fill_range n _ (Nat.le_refl _) (by simp) (fun k hk => .inl (by simp [List.getD, hk])) (fun k hk => by omega) M h

/-- Three lists. -/
def triA (a b c : List Int) : Nat → List Int := fun i => if i = 0 then a else if i = 1 then b else c
/-- Counts: the elements that come of the first ones. -/
theorem flat_take {α β : Type} (xs : List α) (f : α → List β) {i : Nat} {x : α} (h : xs[i]? = some x) : (xs.take (i + 1)).flatMap f = (xs.take i).flatMap f ++ f x := by
  rw [List.take_add_one, h, List.flatMap_append]
  simp
theorem flat_all {α β : Type} (xs : List α) (f : α → List β) : (xs.take xs.length).flatMap f = xs.flatMap f := by rw [List.take_length]
theorem flat_at {α β : Type} (xs : List α) (f : α → List β) {i : Nat} {x : α} (h : xs[i]? = some x) {j : Nat} {y : β} (hy : (f x)[j]? = some y) : (xs.flatMap f)[((xs.take i).flatMap f).length + j]? = some y := by
  have e : xs.flatMap f = (xs.take i).flatMap f ++ (f x ++ (xs.drop (i + 1)).flatMap f) := by
    rw [← List.append_assoc, ← flat_take xs f h, ← List.flatMap_append, List.take_append_drop]
  rw [e, List.getElem?_append_right (by omega), Nat.add_sub_cancel_left, List.getElem?_append_left (List.getElem?_eq_some_iff.1 hy).1]
  exact hy
end Cov
