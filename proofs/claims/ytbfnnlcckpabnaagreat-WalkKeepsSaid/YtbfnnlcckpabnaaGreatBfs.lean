/- The tiles that are reached, as a plain search in breadth. -/
import Derived.Test.YtbfnnlcckpabnaaGreatWk1
import Derived.Test.YtbfnnlcckpabnaaGreatOrd
namespace Go.Proofs.YtbfnnlcckpabnaaGreat
set_option linter.unusedSimpArgs false
set_option linter.unusedVariables false
open Go.RowKit

abbrev Word := List UInt8
abbrev Places := List (Word × Word)
abbrev Seen := List (Word × Bool)

/-- The last r of the three neighbours of the tile t, to which a way leads from su. -/
def reachDirs (o : Hy.Ord) (fuel : Nat) (wall : Word → Int → Bool) (su t way : Word) : Nat → Places → Seen → Option (Places × Seen)
  | 0, q, s => some (q, s)
  | r + 1, q, s =>
    if Hy.wordsErr [su, way ++ Hy.letter (2 - r)] ≠ 0 ∨ 100000 ≤ q.length then none else
    match Hy.norm o fuel (su ++ (way ++ Hy.letter (2 - r))) with
    | none => none
    | some nx => if (mlook nx s).getD false = false ∧ wall (Hy.nearOf t nx) ((2 - r : Nat) : Int) = false then reachDirs o fuel wall su t way r (q ++ [(nx, way ++ Hy.letter (2 - r))]) (mput nx true s) else reachDirs o fuel wall su t way r q s

/-- The places that are taken from the queue, one after the other. -/
def reachAll (o : Hy.Ord) (fuel : Nat) (wall : Word → Int → Bool) (su : Word) : Nat → Places → Seen → Option Places
  | _, [], _ => some []
  | 0, _ :: _, _ => none
  | n + 1, (t, way) :: q, s =>
    if way.length = 10 then (reachAll o fuel wall su n q s).map ((t, way) :: ·) else
    match reachDirs o fuel wall su t way 3 q s with
    | none => none
    | some (q', s') => (reachAll o fuel wall su n q' s').map ((t, way) :: ·)

theorem reachDirs_succ {o : Hy.Ord} {fuel : Nat} {wall : Word → Int → Bool} {su t way : Word} {r : Nat} {q : Places} {s : Seen} {p : Places × Seen} (h : reachDirs o fuel wall su t way (r + 1) q s = some p) :
    Hy.wordsErr [su, way ++ Hy.letter (2 - r)] = 0 ∧ q.length < 100000 ∧ ∃ nx, Hy.norm o fuel (su ++ (way ++ Hy.letter (2 - r))) = some nx ∧
      ((((mlook nx s).getD false = false ∧ wall (Hy.nearOf t nx) ((2 - r : Nat) : Int) = false) ∧ reachDirs o fuel wall su t way r (q ++ [(nx, way ++ Hy.letter (2 - r))]) (mput nx true s) = some p) ∨
       (¬ ((mlook nx s).getD false = false ∧ wall (Hy.nearOf t nx) ((2 - r : Nat) : Int) = false) ∧ reachDirs o fuel wall su t way r q s = some p)) := by
  unfold reachDirs at h
  by_cases h1 : Hy.wordsErr [su, way ++ Hy.letter (2 - r)] ≠ 0 ∨ 100000 ≤ q.length
  · rw [if_pos h1] at h; cases h
  · rw [if_neg h1] at h
    refine ⟨Decidable.byContradiction fun hh => h1 (.inl hh), by omega, ?_⟩
    cases hn : Hy.norm o fuel (su ++ (way ++ Hy.letter (2 - r))) with
    | none => rw [hn] at h; cases h
    | some nx =>
      rw [hn] at h
      refine ⟨nx, rfl, ?_⟩
      by_cases hc : (mlook nx s).getD false = false ∧ wall (Hy.nearOf t nx) ((2 - r : Nat) : Int) = false
      · simp only [if_pos hc] at h; exact .inl ⟨hc, h⟩
      · simp only [if_neg hc] at h; exact .inr ⟨hc, h⟩

theorem reachAll_cons {o : Hy.Ord} {fuel : Nat} {wall : Word → Int → Bool} {su : Word} {n : Nat} {t way : Word} {q : Places} {s : Seen} {l : Places} (h : reachAll o fuel wall su n ((t, way) :: q) s = some l) :
    ∃ m l', n = m + 1 ∧ l = (t, way) :: l' ∧ ((way.length = 10 ∧ reachAll o fuel wall su m q s = some l') ∨
      (way.length ≠ 10 ∧ ∃ q' s', reachDirs o fuel wall su t way 3 q s = some (q', s') ∧ reachAll o fuel wall su m q' s' = some l')) := by
  cases n with
  | zero => cases h
  | succ m =>
    unfold reachAll at h
    by_cases h1 : way.length = 10
    · rw [if_pos h1] at h
      obtain ⟨l', h2, rfl⟩ := Option.map_eq_some_iff.1 h
      exact ⟨m, l', rfl, rfl, .inl ⟨h1, h2⟩⟩
    · rw [if_neg h1] at h
      cases hd : reachDirs o fuel wall su t way 3 q s with
      | none => rw [hd] at h; cases h
      | some p =>
        obtain ⟨q', s'⟩ := p
        rw [hd] at h
        obtain ⟨l', h2, rfl⟩ := Option.map_eq_some_iff.1 h
        exact ⟨m, l', rfl, rfl, .inr ⟨h1, q', s', rfl, h2⟩⟩

theorem reachAll_nil {o : Hy.Ord} {fuel : Nat} {wall : Word → Int → Bool} {su : Word} {n : Nat} {s : Seen} {l : Places} (h : reachAll o fuel wall su n [] s = some l) : l = [] := by
  unfold reachAll at h
  cases h; rfl

theorem exists_least {p : Nat → Prop} : ∀ (n : Nat), p n → ∃ m, p m ∧ ∀ k, p k → m ≤ k := by
  intro n
  induction n using Nat.strongRecOn with
  | ind n ih =>
    intro h
    by_cases hx : ∃ k, k < n ∧ p k
    · obtain ⟨k, hk, hp⟩ := hx
      exact ih k hk hp
    · exact ⟨n, h, fun k hk => Nat.le_of_not_lt fun hlt => hx ⟨k, hlt, hk⟩⟩

open Classical in
/-- The least number with a property, or 0. -/
noncomputable def leastOf (p : Nat → Prop) : Nat := if h : ∃ m, p m ∧ ∀ k, p k → m ≤ k then Classical.choose h else 0

theorem leastOf_spec {p : Nat → Prop} {n : Nat} (h : p n) : ∃ m, p m ∧ leastOf p = m := by
  have hx := exists_least n h
  exact ⟨Classical.choose hx, (Classical.choose_spec hx).1, by unfold leastOf; rw [dif_pos hx]⟩

theorem leastOf_le {p : Nat → Prop} {n : Nat} (h : p n) : leastOf p ≤ n := by
  have hx := exists_least n h
  unfold leastOf; rw [dif_pos hx]; exact (Classical.choose_spec hx).2 n h
end Go.Proofs.YtbfnnlcckpabnaaGreat
