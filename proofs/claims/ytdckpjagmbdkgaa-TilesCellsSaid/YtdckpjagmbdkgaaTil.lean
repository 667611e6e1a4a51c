/- Plain Lean: a graph whose tiles get their sides by their numbers, one after the other. -/
import Derived.Test.YtdckpjagmbdkgaaCount
set_option linter.unusedSimpArgs false
set_option linter.unusedVariables false
namespace Hy

/-- The tiles ahead of i have their sides, and i itself those ahead of s. -/
structure Til (o : Ord) (n : Nat) (G : List Node) (i s : Nat) : Prop where
  inv : Inv o G No
  top : ∀ x, x < G.length → (wd G x).length ≤ n + 1
  done : ∀ x t, x < G.length → (wd G x).length ≤ n → t < 3 → x < i ∨ x = i ∧ t < s → ∃ j, tod G x t = some j

theorem Til.begin (o : Ord) (n : Nat) : Til o n start 0 0 := by
  refine ⟨inv_start o, fun x hx => ?_, fun x t _ _ _ h => by omega⟩
  simp [start] at hx
  subst hx
  have h0 : wd start 0 = [] := rfl
  rw [h0]
  exact Nat.zero_le _

theorem Til.row {o : Ord} {n : Nat} {G : List Node} {i : Nat} (h : Til o n G i 3) : Til o n G (i + 1) 0 :=
  ⟨h.inv, h.top, fun x t hx hl ht hp => h.done x t hx hl ht (by omega)⟩
theorem Til.skip {o : Ord} {n : Nat} {G : List Node} {i : Nat} (h : Til o n G i 0) (hl : n < (wd G i).length) : Til o n G (i + 1) 0 :=
  ⟨h.inv, h.top, fun x t hx hl' ht hp => by
    by_cases he : x = i
    · subst he; omega
    · exact h.done x t hx hl' ht (by omega)⟩
theorem Til.step {o : Ord} (F : Fine o) {n : Nat} (hn : n ≤ 900) {G : List Node} {i s : Nat} (h : Til o n G i s) (hi : i < G.length) (hl : (wd G i).length ≤ n) (hs : s < 3) :
    ∃ G' y, stepL 1000 o 1000 G i s = some (G', y) ∧ Til o n G' i (s + 1) ∧ G.length ≤ G'.length ∧ (wd G' i).length ≤ n := by
  obtain ⟨G2, y, hst, I2, X2, ht, _⟩ := step_ok F (lim := 1000) 1000 No G i s h.inv hi hs (by simp; omega) (fun _ h => h.elim)
  refine ⟨G2, y, hst, ⟨I2, fun x hx => ?_, fun x t hx hlx ht3 hp => ?_⟩, X2.len, by rw [X2.hwd hi]; exact hl⟩
  · rcases Nat.lt_or_ge x G.length with h1 | h1
    · rw [X2.hwd h1]; exact h.top x h1
    · have := X2.new h1; omega
  · by_cases hold : x < i ∨ x = i ∧ t < s
    · have hxG : x < G.length := by omega
      obtain ⟨j, hj⟩ := h.done x t hxG (by rw [X2.hwd hxG] at hlx; exact hlx) ht3 hold
      exact ⟨j, X2.htod hj⟩
    · obtain ⟨rfl, rfl⟩ : x = i ∧ t = s := by omega
      exact ⟨y, ht⟩
theorem Til.end {o : Ord} {n : Nat} {G : List Node} (h : Til o n G G.length 0) : Upto G (n + 1) := fun x hx hl s hs => h.done x s hx (by omega) hs (.inl hx)
theorem Til.small {o : Ord} {n : Nat} {G : List Node} {i s : Nat} (h : Til o n G i s) (hn : n ≤ 14) : G.length ≤ 28697813 := by
  have h2 := short_len h.inv h.top
  have h3 : 3 ^ (n + 1) ≤ 3 ^ 15 := Nat.pow_le_pow_right (by omega) (by omega)
  have h4 : 3 ^ 15 = 14348907 := by decide
  omega

/-- How many of the first i tiles of length n at most are so. -/
def uC (G : List Node) (n : Nat) (Q : Nat → Bool) (i : Nat) : Nat := cnt (fun x => decide (ln G x ≤ n) && Q x) i
theorem cnt_succ (P : Nat → Bool) (n : Nat) : cnt P (n + 1) = cnt P n + (if P n = true then 1 else 0) := by
  unfold cnt
  rw [List.range_succ, List.filter_append, List.length_append]
  by_cases h : P n = true
  · simp [h]
  · simp [h]
theorem uC_skip {G : List Node} {n i : Nat} (Q : Nat → Bool) (h : n < ln G i) : uC G n Q (i + 1) = uC G n Q i := by
  unfold uC
  rw [cnt_succ, if_neg (by simp; omega), Nat.add_zero]
theorem uC_next {G : List Node} {n i : Nat} (Q : Nat → Bool) (h : ln G i ≤ n) : uC G n Q (i + 1) = uC G n Q i + (if Q i = true then 1 else 0) := by
  unfold uC
  have e : (decide (ln G i ≤ n) && Q i) = Q i := by simp [h]
  rw [cnt_succ, e]
theorem uC_le (G : List Node) (n : Nat) (Q : Nat → Bool) (i : Nat) : uC G n Q i ≤ i := by
  unfold uC cnt
  refine Nat.le_trans (List.length_filter_le _ _) ?_
  rw [List.length_range]; exact Nat.le_refl _
theorem uC_all (G : List Node) (Q : Nat → Bool) : ∀ n, uC G n Q G.length = sumN (fun k => cnt (fun i => ln G i == k && Q i) G.length) (n + 1)
  | 0 => by
    show _ = 0 + _
    rw [Nat.zero_add]
    refine cnt_congr fun i _ => ?_
    congr 1
    rw [Bool.eq_iff_iff]
    simp
  | n + 1 => by
    rw [sumN, ← uC_all G Q n]
    refine cnt_or fun i _ => ?_
    by_cases h : ln G i = n + 1
    · have h1 : decide (ln G i ≤ n + 1) = true := by simp; omega
      have h2 : decide (ln G i ≤ n) = false := by simp; omega
      have h3 : (ln G i == n + 1) = true := by simp [h]
      rw [h1, h2, h3]
      simp [bi]
    · have h3 : (ln G i == n + 1) = false := by simp [h]
      have h1 : decide (ln G i ≤ n + 1) = decide (ln G i ≤ n) := by rw [Bool.eq_iff_iff]; simp; omega
      rw [h1, h3]
      simp [bi]

theorem sumN_add (f g : Nat → Nat) : ∀ n, sumN (fun k => f k + g k) n = sumN f n + sumN g n
  | 0 => rfl
  | n + 1 => by rw [sumN, sumN, sumN, sumN_add f g n]; omega
theorem sumN_zero : ∀ n, sumN (fun _ => 0) n = 0
  | 0 => rfl
  | n + 1 => by rw [sumN, sumN_zero n]
theorem sumN_if (c : Prop) [Decidable c] (f : Nat → Nat) (n : Nat) : sumN (fun k => if c then f k else 0) n = if c then sumN f n else 0 := by
  by_cases h : c
  · simp [h]
  · simp [h, sumN_zero]

/-- The sides and the corners that are counted with the first i tiles, and with the first k sides of one tile. -/
def tU (G : List Node) (n i : Nat) : Nat := uC G n (fun _ => true) i
def eU (G : List Node) (n i : Nat) : Nat := uC G n (fun x => !dnb G x 0) i + uC G n (fun x => !dnb G x 1) i + uC G n (fun x => !dnb G x 2) i
def cU (o : Ord) (G : List Node) (n i : Nat) : Nat := (if 0 < o.m 1 2 then uC G n (fun x => !dnb G x 1 && !dnb G x 2) i else 0) + (if 0 < o.m 0 2 then uC G n (fun x => !dnb G x 0 && !dnb G x 2) i else 0) + (if 0 < o.m 0 1 then uC G n (fun x => !dnb G x 0 && !dnb G x 1) i else 0)
def fst3 (s : Nat) : Nat := if s = 0 then 1 else 0
def snd3 (s : Nat) : Nat := if s = 2 then 1 else 2
def eS (G : List Node) (x : Nat) : Nat → Nat
  | 0 => 0
  | k + 1 => eS G x k + (if dnb G x k = false then 1 else 0)
def cS (o : Ord) (G : List Node) (x : Nat) : Nat → Nat
  | 0 => 0
  | k + 1 => cS o G x k + (if 0 < o.m (fst3 k) (snd3 k) ∧ dnb G x (fst3 k) = false ∧ dnb G x (snd3 k) = false then 1 else 0)

theorem tU_all (G : List Node) (n : Nat) : tU G n G.length = sumN (aC G) (n + 1) := by
  unfold tU
  rw [uC_all]
  refine sumN_congr fun k _ => ?_
  unfold aC
  exact cnt_congr fun i _ => by simp
theorem eU_all (G : List Node) (n : Nat) : eU G n G.length = sumN (sC G) (n + 1) := by
  unfold eU
  rw [uC_all, uC_all, uC_all, ← sumN_add, ← sumN_add]
  rfl
theorem cU_all (o : Ord) (G : List Node) (n : Nat) : cU o G n G.length = sumN (pC o G) (n + 1) := by
  unfold cU
  rw [uC_all, uC_all, uC_all, ← sumN_if, ← sumN_if, ← sumN_if, ← sumN_add, ← sumN_add]
  rfl
theorem tU_next {G : List Node} {n i : Nat} (h : ln G i ≤ n) : tU G n (i + 1) = tU G n i + 1 := by
  unfold tU
  rw [uC_next _ h, if_pos rfl]
theorem eU_next {G : List Node} {n i : Nat} (h : ln G i ≤ n) : eU G n (i + 1) = eU G n i + eS G i 3 := by
  unfold eU
  rw [uC_next _ h, uC_next _ h, uC_next _ h]
  simp only [eS, Bool.not_eq_true']
  omega
theorem cU_next {o : Ord} {G : List Node} {n i : Nat} (h : ln G i ≤ n) : cU o G n (i + 1) = cU o G n i + cS o G i 3 := by
  unfold cU
  rw [uC_next _ h, uC_next _ h, uC_next _ h]
  simp only [cS, fst3, snd3, Bool.and_eq_true, Bool.not_eq_true']
  simp only [if_pos, Nat.reduceEqDiff, if_false, if_true]
  by_cases h1 : 0 < o.m 1 2 <;> by_cases h2 : 0 < o.m 0 2 <;> by_cases h3 : 0 < o.m 0 1 <;> simp only [h1, h2, h3, true_and, false_and, if_true, if_false] <;> omega
theorem tU_skip {G : List Node} {n i : Nat} (h : n < ln G i) : tU G n (i + 1) = tU G n i := uC_skip _ h
theorem eU_skip {G : List Node} {n i : Nat} (h : n < ln G i) : eU G n (i + 1) = eU G n i := by
  unfold eU
  rw [uC_skip _ h, uC_skip _ h, uC_skip _ h]
theorem cU_skip {o : Ord} {G : List Node} {n i : Nat} (h : n < ln G i) : cU o G n (i + 1) = cU o G n i := by
  unfold cU
  rw [uC_skip _ h, uC_skip _ h, uC_skip _ h]
theorem tU_le (G : List Node) (n i : Nat) : tU G n i ≤ i := uC_le _ _ _ _
theorem eU_le (G : List Node) (n i : Nat) : eU G n i ≤ 3 * i := by
  have h1 := uC_le G n (fun x => !dnb G x 0) i
  have h2 := uC_le G n (fun x => !dnb G x 1) i
  have h3 := uC_le G n (fun x => !dnb G x 2) i
  unfold eU; omega
theorem cU_le (o : Ord) (G : List Node) (n i : Nat) : cU o G n i ≤ 3 * i := by
  have h1 := uC_le G n (fun x => !dnb G x 1 && !dnb G x 2) i
  have h2 := uC_le G n (fun x => !dnb G x 0 && !dnb G x 2) i
  have h3 := uC_le G n (fun x => !dnb G x 0 && !dnb G x 1) i
  unfold cU
  split <;> split <;> split <;> omega
theorem eS_le (G : List Node) (x : Nat) : ∀ k, eS G x k ≤ k
  | 0 => Nat.le_refl _
  | k + 1 => by have := eS_le G x k; rw [eS]; split <;> omega
theorem cS_le (o : Ord) (G : List Node) (x : Nat) : ∀ k, cS o G x k ≤ k
  | 0 => Nat.le_refl _
  | k + 1 => by have := cS_le o G x k; rw [cS]; split <;> omega
end Hy
