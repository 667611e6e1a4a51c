/- Plain Lean, no program: the search in breadth always ends, and finds each tile by the least way without walls. -/
import Derived.Test.YtbfnnlcckpabnaaBfs
import Derived.Test.YtbfnnlcckpabnaaNf
namespace Go.Proofs.Ytbfnnlcckpabnaa
set_option linter.unusedSimpArgs false
set_option linter.unusedVariables false
open Hy (Lets IsNF Eqv Le)

theorem mlook_mput {α β : Type} [DecidableEq α] (a b : α) (v : β) : ∀ (l : List (α × β)), mlook a (mput b v l) = if a = b then some v else mlook a l
  | [] => by unfold mput mlook; rfl
  | (k, x) :: r => by
    unfold mput
    by_cases h : b = k
    · subst h
      rw [if_pos rfl]
      unfold mlook
      by_cases h2 : a = b
      · rw [if_pos h2, if_pos h2]
      · rw [if_neg h2, if_neg h2, if_neg h2]
    · rw [if_neg h]
      unfold mlook
      rw [mlook_mput a b v r]
      by_cases h2 : a = k
      · subst h2; rw [if_pos rfl, if_neg (Ne.symm h), if_pos rfl]
      · rw [if_neg h2, if_neg h2]

/-- The place of a word among all words. -/
def rk (w : Word) : Nat := w.foldl (fun n c => 3 * n + c.toNat + 1) 0

theorem rk_snoc (w : Word) {c : Nat} (hc : c < 3) : rk (w ++ Hy.letter c) = 3 * rk w + c + 1 := by
  have : (UInt8.ofNat c).toNat = c := by simp only [UInt8.toNat_ofNat']; omega
  unfold rk Hy.letter
  rw [List.foldl_append]
  simp only [List.foldl_cons, List.foldl_nil, this]

theorem rk_bound : ∀ n (w : Word), w.length = n → Lets w → 3 ^ n ≤ 2 * rk w + 1 ∧ 2 * rk w + 3 ≤ 3 ^ (n + 1)
  | 0, w, hw, _ => by
    cases w with
    | nil => exact ⟨by simp [rk], by simp [rk]⟩
    | cons c w => cases hw
  | n + 1, w, hw, hl => by
    rcases List.eq_nil_or_concat w with rfl | ⟨a, c, rfl⟩
    · cases hw
    rw [List.concat_eq_append] at hw hl ⊢
    obtain ⟨h1, h2⟩ := rk_bound n a (by simpa using hw) (Lets.app.1 hl).1
    have hc := (Lets.app.1 hl).2 c (by simp)
    have h3 := rk_snoc a hc
    rw [Hy.ofNat_toNat] at h3
    rw [h3, Nat.pow_succ, Nat.pow_succ]
    rw [Nat.pow_succ] at h2
    rw [Nat.pow_succ] 
    omega

theorem rk_len {a b : Word} (ha : Lets a) (hb : Lets b) (h : rk a ≤ rk b) : a.length ≤ b.length := by
  rcases Nat.lt_or_ge b.length a.length with hl | hl
  · exfalso
    have h1 := (rk_bound _ a rfl ha).1
    have h2 := (rk_bound _ b rfl hb).2
    have : 3 ^ (b.length + 1) ≤ 3 ^ a.length := Nat.pow_le_pow_right (by omega) hl
    omega
  · exact hl

theorem rk_ten {a : Word} (ha : Lets a) (h : a.length ≤ 10) : rk a < 88573 := by
  have h2 := (rk_bound _ a rfl ha).2
  have : 3 ^ (a.length + 1) ≤ 3 ^ 11 := Nat.pow_le_pow_right (by omega) (by omega)
  have h3 : (3 : Nat) ^ 11 = 177147 := by decide
  omega

/-- The order of places is that of words. -/
theorem rk_le {a b : Word} (ha : Lets a) (hb : Lets b) (h : rk a ≤ rk b) : Le a b := by
  have hl := rk_len ha hb h
  rcases Nat.lt_or_ge a.length b.length with h1 | h1
  · exact .inl h1
  · refine .inr ⟨by omega, ?_⟩
    have key : ∀ (a b : Word) (m n : Nat), a.length = b.length → Lets a → Lets b → (n < m ∨ (n = m ∧ Hy.less b a = true)) → b.foldl (fun n c => 3 * n + c.toNat + 1) n < a.foldl (fun n c => 3 * n + c.toNat + 1) m := by
      intro a
      induction a with
      | nil =>
        intro b m n hab _ _ hx
        cases b with
        | nil => rcases hx with hx | ⟨_, hx⟩; exact hx; cases hx
        | cons _ _ => cases hab
      | cons x a ih =>
        intro b m n hab ha hb hx
        cases b with
        | nil => cases hab
        | cons y b =>
          have hx3 : x.toNat < 3 := ha x List.mem_cons_self
          have hy3 : y.toNat < 3 := hb y List.mem_cons_self
          refine ih b (3 * m + x.toNat + 1) (3 * n + y.toNat + 1) (Nat.succ.inj hab) (fun c hc => ha c (List.mem_cons_of_mem _ hc)) (fun c hc => hb c (List.mem_cons_of_mem _ hc)) ?_
          rcases hx with hx | ⟨hx, hy⟩
          · exact .inl (by omega)
          · unfold Hy.less at hy
            simp only [Bool.or_eq_true, Bool.and_eq_true, decide_eq_true_eq, beq_iff_eq, UInt8.lt_iff_toNat_lt] at hy
            rcases hy with hy | ⟨rfl, hy⟩
            · exact .inl (by omega)
            · exact .inr ⟨by omega, hy⟩
    cases hless : Hy.less b a with
    | false => rfl
    | true =>
      have := key a b 0 0 (by omega) ha hb (.inr ⟨rfl, hless⟩)
      unfold rk at h
      omega

theorem le_rk {a b : Word} (ha : Lets a) (hb : Lets b) (h : Le a b) : rk a ≤ rk b := by
  rcases Nat.lt_or_ge (rk b) (rk a) with h1 | h1
  · have := rk_le hb ha (Nat.le_of_lt h1)
    rw [h.antisymm this] at h1
    omega
  · exact h1

theorem sorted_length : ∀ (l : List Nat) (m n : Nat), l.Pairwise (· < ·) → (∀ x ∈ l, m ≤ x ∧ x < n) → l.length ≤ n - m
  | [], m, n, _, _ => Nat.zero_le _
  | x :: l, m, n, hs, hb => by
    obtain ⟨h1, h2⟩ := List.pairwise_cons.1 hs
    have h3 := hb x List.mem_cons_self
    have := sorted_length l (x + 1) n h2 (fun y hy => ⟨h1 y hy, (hb y (List.mem_cons_of_mem _ hy)).2⟩)
    simp only [List.length_cons]
    omega

section
variable (o : Hy.Ord) (wall : Word → Int → Bool) (su : Word)

/-- A way without walls. -/
inductive Unwalled : Word → Prop
  | nil : Unwalled []
  | snoc {w : Word} {c : Nat} {t nx : Word} : Unwalled w → c < 3 → IsNF o (su ++ w) t → IsNF o (su ++ (w ++ Hy.letter c)) nx → wall (Hy.nearOf t nx) (c : Int) = false → Unwalled (w ++ Hy.letter c)

/-- Places that are reached. -/
structure Got (P : Places) : Prop where
  each : ∀ p ∈ P, IsNF o (su ++ p.2) p.1 ∧ p.2.length ≤ 10 ∧ Unwalled o wall su p.2 ∧ Lets p.2
  sorted : P.Pairwise (fun p q => rk p.2 < rk q.2)

def SeenOk (P : Places) (s : Seen) : Prop := ∀ t, (mlook t s).getD false = true ↔ ∃ way, (t, way) ∈ P

/-- The neighbour over a side is among the places. -/
def Tried (P : Places) (p : Word × Word) (c : Nat) : Prop := ∀ nx, IsNF o (su ++ (p.2 ++ Hy.letter c)) nx → wall (Hy.nearOf p.1 nx) (c : Int) = false → ∃ way, (nx, way) ∈ P ∧ rk way ≤ rk (p.2 ++ Hy.letter c)
end

section
variable {o : Hy.Ord} {wall : Word → Int → Bool} {su : Word}

theorem Got.length {P : Places} (h : Got o wall su P) : P.length ≤ 88573 := by
  have := sorted_length (P.map (fun p => rk p.2)) 0 88573 (List.pairwise_map.2 h.sorted) (fun x hx => by
    obtain ⟨p, hp, rfl⟩ := List.mem_map.1 hx
    obtain ⟨_, h1, _, h2⟩ := h.each p hp
    exact ⟨Nat.zero_le _, rk_ten h2 h1⟩)
  simpa using this

theorem Tried.mono {P P' : Places} {p : Word × Word} {c : Nat} (h : Tried o wall su P p c) (hP : ∀ x ∈ P, x ∈ P') : Tried o wall su P' p c := fun nx h1 h2 => by
  obtain ⟨way, h3, h4⟩ := h nx h1 h2
  exact ⟨way, hP _ h3, h4⟩

theorem wordErr_lets {l : Word} (hl : Lets l) (h : l.length ≤ 60) : Hy.wordErr l = 0 := by
  refine Hy.wordErr_ok ?_ h
  rw [List.any_eq_false]
  intro c hc
  have := hl c hc
  simp only [decide_eq_true_eq, UInt8.lt_iff_toNat_lt]
  show ¬ 2 < c.toNat
  omega

theorem lets_of_err {l : Word} (h : Hy.wordErr l = 0) : Lets l := fun c hc => by
  obtain ⟨k, hk, rfl⟩ := List.mem_iff_getElem.1 hc
  exact (Hy.wordErr_letters h).1 k hk

theorem reachDirs_ok (F : Hy.Fine o) {fuel : Nat} (hf : 1000 ≤ fuel) (hsu : Lets su) (hlen : su.length ≤ 60) {D : Places} {t way : Word} : ∀ r, r ≤ 3 → ∀ q s, Got o wall su (D ++ (t, way) :: q) → SeenOk (D ++ (t, way) :: q) s → way.length < 10 →
    (∀ p ∈ D ++ (t, way) :: q, rk p.2 < 3 * rk way + (3 - r) + 1) →
    ∃ q' s', reachDirs o fuel wall su t way r q s = some (q ++ q', s') ∧ Got o wall su (D ++ (t, way) :: (q ++ q')) ∧ SeenOk (D ++ (t, way) :: (q ++ q')) s' ∧ (∀ c, 3 - r ≤ c → c < 3 → Tried o wall su (D ++ (t, way) :: (q ++ q')) (t, way) c) ∧
      (∀ p ∈ D ++ (t, way) :: (q ++ q'), rk p.2 < 3 * rk way + 4) := by
  intro r
  induction r with
  | zero =>
    intro _ q s h1 h2 _ h4
    exact ⟨[], s, by rw [List.append_nil]; rfl, by rw [List.append_nil]; exact h1, by rw [List.append_nil]; exact h2, fun c hc1 hc2 => by omega, by rw [List.append_nil]; exact h4⟩
  | succ r ih =>
    intro hr q s h1 h2 h3 h4
    have hmem : (t, way) ∈ D ++ (t, way) :: q := List.mem_append_right _ List.mem_cons_self
    obtain ⟨e1, e2, e3, e4⟩ := h1.each _ hmem
    have hc : 2 - r < 3 := by omega
    have hw' : Lets (way ++ Hy.letter (2 - r)) := Lets.app.2 ⟨e4, Hy.lets_letter hc⟩
    have hwl : (way ++ Hy.letter (2 - r)).length = way.length + 1 := by simp [Hy.letter]
    have hrk := rk_snoc way hc
    have herr : Hy.wordsErr [su, way ++ Hy.letter (2 - r)] = 0 := by
      rw [Hy.wordsErr_two, if_neg (by simpa using wordErr_lets hsu hlen)]
      exact wordErr_lets hw' (by omega)
    have hq : q.length < 100000 := by
      have := h1.length
      simp at this
      omega
    obtain ⟨nx, hn1, hn2⟩ := Hy.norm_ok F (fuel := fuel) (w := su ++ (way ++ Hy.letter (2 - r))) (Lets.app.2 ⟨hsu, hw'⟩) (by simp only [List.length_append] at hwl ⊢; omega) (by simp only [List.length_append] at hwl ⊢; omega)
    unfold reachDirs
    rw [if_neg (by rintro (h | h); exact h herr; omega), hn1]
    simp only
    by_cases hcond : (mlook nx s).getD false = false ∧ wall (Hy.nearOf t nx) ((2 - r : Nat) : Int) = false
    · rw [if_pos hcond]
      have g1 : Got o wall su (D ++ (t, way) :: (q ++ [(nx, way ++ Hy.letter (2 - r))])) := by
        rw [show D ++ (t, way) :: (q ++ [(nx, way ++ Hy.letter (2 - r))]) = (D ++ (t, way) :: q) ++ [(nx, way ++ Hy.letter (2 - r))] by simp]
        refine ⟨fun p hp => ?_, ?_⟩
        · rcases List.mem_append.1 hp with hp | hp
          · exact h1.each p hp
          · cases List.mem_singleton.1 hp
            exact ⟨hn2, by simp only; omega, .snoc e3 hc e1 hn2 hcond.2, hw'⟩
        · refine List.pairwise_append.2 ⟨h1.sorted, List.pairwise_singleton _ _, fun p hp x hx => ?_⟩
          cases List.mem_singleton.1 hx
          have := h4 p hp
          simp only
          omega
      have g2 : SeenOk (D ++ (t, way) :: (q ++ [(nx, way ++ Hy.letter (2 - r))])) (mput nx true s) := by
        rw [show D ++ (t, way) :: (q ++ [(nx, way ++ Hy.letter (2 - r))]) = (D ++ (t, way) :: q) ++ [(nx, way ++ Hy.letter (2 - r))] by simp]
        intro u
        rw [mlook_mput]
        by_cases hu : u = nx
        · rw [if_pos hu]
          exact ⟨fun _ => ⟨_, by rw [hu]; exact List.mem_append_right _ List.mem_cons_self⟩, fun _ => rfl⟩
        · rw [if_neg hu, h2 u]
          constructor
          · rintro ⟨y, hy⟩; exact ⟨y, List.mem_append_left _ hy⟩
          · rintro ⟨y, hy⟩
            rcases List.mem_append.1 hy with hy | hy
            · exact ⟨y, hy⟩
            · exact absurd (congrArg Prod.fst (List.mem_singleton.1 hy)) hu
      obtain ⟨q', s', r1, r2, r3, r4, r5⟩ := ih (by omega) (q ++ [(nx, way ++ Hy.letter (2 - r))]) (mput nx true s) g1 g2 h3 (fun p hp => by
        rw [show D ++ (t, way) :: (q ++ [(nx, way ++ Hy.letter (2 - r))]) = (D ++ (t, way) :: q) ++ [(nx, way ++ Hy.letter (2 - r))] by simp] at hp
        rcases List.mem_append.1 hp with hp | hp
        · have := h4 p hp; omega
        · cases List.mem_singleton.1 hp
          simp only
          omega)
      rw [show q ++ [(nx, way ++ Hy.letter (2 - r))] ++ q' = q ++ ((nx, way ++ Hy.letter (2 - r)) :: q') by simp] at r1 r2 r3 r4 r5
      refine ⟨_, s', r1, r2, r3, fun c hc1 hc2 => ?_, r5⟩
      by_cases hcr : c = 2 - r
      · intro nx' hx1 _
        subst hcr
        cases hx1.uniq hn2
        exact ⟨_, List.mem_append_right _ (List.mem_cons_of_mem _ (List.mem_append_right _ List.mem_cons_self)), Nat.le_refl _⟩
      · exact r4 c (by omega) hc2
    · rw [if_neg hcond]
      obtain ⟨q', s', r1, r2, r3, r4, r5⟩ := ih (by omega) q s h1 h2 h3 (fun p hp => by have := h4 p hp; omega)
      refine ⟨q', s', r1, r2, r3, fun c hc1 hc2 => ?_, r5⟩
      by_cases hcr : c = 2 - r
      · intro nx' hx1 hx2
        subst hcr
        cases hx1.uniq hn2
        have hseen : (mlook nx s).getD false = true := by
          cases hb : (mlook nx s).getD false with
          | true => rfl
          | false => exact absurd ⟨hb, hx2⟩ hcond
        obtain ⟨y, hy⟩ := (h2 nx).1 hseen
        refine ⟨y, ?_, ?_⟩
        · rw [show D ++ (t, way) :: (q ++ q') = (D ++ (t, way) :: q) ++ q' by simp]; exact List.mem_append_left _ hy
        · have := h4 _ hy
          simp only at this ⊢
          omega
      · exact r4 c (by omega) hc2

theorem reachAll_ok (F : Hy.Fine o) {fuel : Nat} (hf : 1000 ≤ fuel) (hsu : Lets su) (hlen : su.length ≤ 60) : ∀ n D q s, Got o wall su (D ++ q) → SeenOk (D ++ q) s → (∀ p ∈ D, p.2.length < 10 → ∀ c, c < 3 → Tried o wall su (D ++ q) p c) →
    (∀ h q', q = h :: q' → ∀ p ∈ D ++ q, rk p.2 < 3 * rk h.2 + 1) → 88573 ≤ D.length + n →
    ∃ l, reachAll o fuel wall su n q s = some (q ++ l) ∧ Got o wall su (D ++ (q ++ l)) ∧ ∀ p ∈ D ++ (q ++ l), p.2.length < 10 → ∀ c, c < 3 → Tried o wall su (D ++ (q ++ l)) p c
  | n, D, [], s, h1, _, h3, _, _ => ⟨[], by unfold reachAll; rfl, by simpa using h1, by simpa using h3⟩
  | 0, D, h :: q, s, h1, _, _, _, h5 => by
    have := h1.length
    simp at this
    omega
  | n + 1, D, (t, way) :: q, s, h1, h2, h3, h4, h5 => by
    have hmem : (t, way) ∈ D ++ (t, way) :: q := List.mem_append_right _ List.mem_cons_self
    obtain ⟨e1, e2, e3, e4⟩ := h1.each _ hmem
    have e2 : way.length ≤ 10 := e2
    unfold reachAll
    by_cases hw : way.length = 10
    · rw [if_pos hw]
      have ha : D ++ (t, way) :: q = (D ++ [(t, way)]) ++ q := by simp
      obtain ⟨l, r1, r2, r3⟩ := reachAll_ok F hf hsu hlen n (D ++ [(t, way)]) q s (by rw [← ha]; exact h1) (by rw [← ha]; exact h2) (fun p hp hpl c hc => by
        rw [← ha]
        rcases List.mem_append.1 hp with hp | hp
        · exact h3 p hp hpl c hc
        · cases List.mem_singleton.1 hp
          simp only at hpl
          omega) (fun h q' hq p hp => by
        rw [← ha] at hp
        have b1 := h4 _ _ rfl p hp
        have b2 := (List.pairwise_cons.1 (List.pairwise_append.1 h1.sorted).2.1).1 h (by rw [hq]; exact List.mem_cons_self)
        simp only at b1 b2
        omega) (by simp; omega)
      rw [r1]
      have hb : D ++ ((t, way) :: q ++ l) = (D ++ [(t, way)]) ++ (q ++ l) := by simp
      exact ⟨l, rfl, by rw [hb]; exact r2, by rw [hb]; exact r3⟩
    · rw [if_neg hw]
      obtain ⟨q1, s1, d1, d2, d3, d4, d5⟩ := reachDirs_ok F hf hsu hlen (D := D) (t := t) (way := way) 3 (Nat.le_refl _) q s h1 h2 (by omega) (fun p hp => by have := h4 _ _ rfl p hp; simp only at this; omega)
      rw [d1]
      simp only
      have ha : D ++ (t, way) :: (q ++ q1) = (D ++ [(t, way)]) ++ (q ++ q1) := by simp
      obtain ⟨l, r1, r2, r3⟩ := reachAll_ok F hf hsu hlen n (D ++ [(t, way)]) (q ++ q1) s1 (by rw [← ha]; exact d2) (by rw [← ha]; exact d3) (fun p hp hpl c hc => by
        rw [← ha]
        rcases List.mem_append.1 hp with hp | hp
        · exact (h3 p hp hpl c hc).mono (fun x hx => by
            rw [show D ++ (t, way) :: (q ++ q1) = (D ++ (t, way) :: q) ++ q1 by simp]; exact List.mem_append_left _ hx)
        · cases List.mem_singleton.1 hp
          exact d4 c (by omega) hc) (fun h q' hq p hp => by
        rw [← ha] at hp
        have b1 := d5 p hp
        have b2 := (List.pairwise_cons.1 (List.pairwise_append.1 d2.sorted).2.1).1 h (by rw [hq]; exact List.mem_cons_self)
        simp only at b1 b2
        omega) (by simp; omega)
      rw [r1]
      have hb : D ++ ((t, way) :: q ++ (q1 ++ l)) = (D ++ [(t, way)]) ++ (q ++ q1 ++ l) := by simp
      exact ⟨q1 ++ l, by simp, by rw [hb]; exact r2, by rw [hb]; exact r3⟩

theorem find_least {P : Places} {goal : Word} : ∀ {P : Places} {a : Word × Word}, P.Pairwise (fun p q => rk p.2 < rk q.2) → P.find? (fun p => p.1 == goal) = some a → a ∈ P ∧ a.1 = goal ∧ ∀ b ∈ P, b.1 = goal → rk a.2 ≤ rk b.2
  | [], a, _, h => by cases h
  | x :: P, a, hs, h => by
    obtain ⟨h1, h2⟩ := List.pairwise_cons.1 hs
    rw [List.find?_cons] at h
    by_cases hx : x.1 = goal
    · simp only [hx, beq_self_eq_true] at h
      cases h
      refine ⟨List.mem_cons_self, hx, fun b hb _ => ?_⟩
      rcases List.mem_cons.1 hb with rfl | hb
      · exact Nat.le_refl _
      · exact Nat.le_of_lt (h1 b hb)
    · have hxf : (x.1 == goal) = false := by simpa using hx
      rw [hxf] at h
      obtain ⟨h3, h4, h5⟩ := find_least (P := P) h2 h
      refine ⟨List.mem_cons_of_mem _ h3, h4, fun b hb hbg => ?_⟩
      rcases List.mem_cons.1 hb with rfl | hb
      · exact absurd hbg hx
      · exact h5 b hb hbg

/-- The search from the tile su: the first place of each tile has the least free way. -/
theorem search_ok (F : Hy.Fine o) {fuel : Nat} (hf : 1000 ≤ fuel) (hsu : Lets su) (hlen : su.length ≤ 60) (hnf : IsNF o su su) : ∃ xs, reachAll o fuel wall su 88573 [(su, [])] [(su, true)] = some xs ∧ Got o wall su xs ∧
    ∀ w, Unwalled o wall su w → Lets w → w.length ≤ 10 → ∃ p ∈ xs, IsNF o (su ++ w) p.1 ∧ rk p.2 ≤ rk w := by
  obtain ⟨l, h1, h2, h3⟩ := reachAll_ok (wall := wall) F hf hsu hlen 88573 [] [(su, [])] [(su, true)] ⟨fun p hp => by
    cases List.mem_singleton.1 hp
    exact ⟨by simpa using hnf, by simp, .nil, fun c hc => by cases hc⟩, List.pairwise_singleton _ _⟩ (fun t => by
      unfold mlook
      by_cases ht : t = su
      · rw [if_pos ht]; subst ht; simp
      · rw [if_neg ht]
        simp only [mlook, Option.getD_none, Bool.false_eq_true, false_iff]
        rintro ⟨y, hy⟩
        simp at hy
        exact ht hy.1) (fun p hp => by cases hp) (fun h q' hq p hp => by
      simp at hp
      cases hq
      subst hp
      simp [rk]) (by simp)
  rw [List.nil_append] at h2 h3
  refine ⟨_, h1, h2, fun w hw => ?_⟩
  induction hw with
  | nil => exact fun _ _ => ⟨(su, []), by simp, by simpa using hnf, Nat.le_refl _⟩
  | @snoc w c t nx hw hc ht hnx hwall ih =>
    intro hl hlen'
    have hlw : (w ++ Hy.letter c).length = w.length + 1 := by simp [Hy.letter]
    obtain ⟨p, p1, p2, p3⟩ := ih (Lets.app.1 hl).1 (by omega)
    cases ht.uniq p2
    obtain ⟨q1, q2, q3, q4⟩ := h2.each p p1
    have hpl := rk_len q4 (Lets.app.1 hl).1 p3
    have hnx' : IsNF o (su ++ (p.2 ++ Hy.letter c)) nx := hnx.congr (by
      have := ((p2.eqv.symm.trans q1.eqv).right (Hy.letter c))
      simpa using this)
    obtain ⟨y, y1, y2⟩ := h3 p p1 (by omega) c hc nx hnx' hwall
    refine ⟨_, y1, hnx, Nat.le_trans y2 ?_⟩
    rw [rk_snoc _ hc, rk_snoc _ hc]
    omega

/-- What the search finds. -/
theorem way_ok (F : Hy.Fine o) {fuel : Nat} (hf : 1000 ≤ fuel) (hsu : Lets su) (hlen : su.length ≤ 60) (hnf : IsNF o su su) : ∃ xs, reachAll o fuel wall su 88573 [(su, [])] [(su, true)] = some xs ∧ Got o wall su xs ∧
    ∀ goal, (∀ p, (xs.find? (fun p => p.1 == goal)).map (·.2) = some p → Unwalled o wall su p ∧ Lets p ∧ p.length ≤ 10 ∧ IsNF o (su ++ p) goal ∧ ∀ w, Unwalled o wall su w → Lets w → w.length ≤ 10 → IsNF o (su ++ w) goal → Le p w) ∧
      ((xs.find? (fun p => p.1 == goal)).map (·.2) = none → ∀ w, Unwalled o wall su w → Lets w → w.length ≤ 10 → ¬ IsNF o (su ++ w) goal) := by
  obtain ⟨xs, h1, h2, h3⟩ := search_ok (wall := wall) F hf hsu hlen hnf
  refine ⟨xs, h1, h2, fun goal => ⟨fun p hp => ?_, fun hp w hw hl hlen' hn => ?_⟩⟩
  · obtain ⟨a, ha, rfl⟩ := Option.map_eq_some_iff.1 hp
    obtain ⟨a1, a2, a3⟩ := find_least (P := xs) h2.sorted ha
    obtain ⟨b1, b2, b3, b4⟩ := h2.each a a1
    refine ⟨b3, b4, b2, by rw [← a2]; exact b1, fun w hw hl hlen' hn => ?_⟩
    obtain ⟨q, q1, q2, q3⟩ := h3 w hw hl hlen'
    exact rk_le b4 hl (Nat.le_trans (a3 q q1 (q2.uniq hn)) q3)
  · obtain ⟨q, q1, q2, q3⟩ := h3 w hw hl hlen'
    have := List.find?_eq_none.1 (Option.map_eq_none_iff.1 hp) q q1
    exact this (by simpa using q2.uniq hn)
end
end Go.Proofs.Ytbfnnlcckpabnaa
