/- Plain Lean, no program: the graph of tiles has few tiles: the sum of the curvatures of its tiles stays the same, its border grows by at most two a step. -/
import Derived.Test.YtbfnnlcckpabnaaGraph
namespace Hy
set_option linter.unusedSimpArgs false
set_option linter.unusedVariables false

def sum (f : Nat → Int) : Nat → Int
  | 0 => 0
  | n + 1 => sum f n + f n

theorem sum_congr {f g : Nat → Int} : ∀ {n : Nat}, (∀ i, i < n → f i = g i) → sum f n = sum g n
  | 0, _ => rfl
  | n + 1, h => by unfold sum; rw [sum_congr (n := n) (fun i hi => h i (by omega)), h n (by omega)]
theorem sum_add (f g : Nat → Int) : ∀ n, sum (fun i => f i + g i) n = sum f n + sum g n
  | 0 => rfl
  | n + 1 => by unfold sum; rw [sum_add f g n]; omega
theorem sum_one (a : Int) (x : Nat) : ∀ n, sum (fun i => if i = x then a else 0) n = if x < n then a else 0
  | 0 => by simp [sum]
  | n + 1 => by
    unfold sum
    rw [sum_one a x n]
    by_cases h1 : x < n
    · rw [if_pos h1, if_neg (by omega), if_pos (by omega)]; omega
    · by_cases h2 : n = x
      · rw [if_neg h1, if_pos h2, if_pos (by omega)]; omega
      · rw [if_neg h1, if_neg h2, if_neg (by omega)]; omega
theorem sum_mem (a : Int) : ∀ (L : List Nat) (n : Nat), L.Nodup → (∀ x ∈ L, x < n) → sum (fun i => if i ∈ L then a else 0) n = a * (L.length : Nat)
  | [], n, _, _ => by
    have : ∀ n, sum (fun i => if i ∈ ([] : List Nat) then a else 0) n = 0 := fun n => by
      induction n with
      | zero => rfl
      | succ n ih => unfold sum; rw [ih]; simp
    rw [this]; simp
  | x :: L, n, hn, hb => by
    obtain ⟨h1, h2⟩ := List.nodup_cons.1 hn
    have h3 := sum_mem a L n h2 (fun y hy => hb y (List.mem_cons_of_mem _ hy))
    have h4 := sum_one a x n
    rw [if_pos (hb x List.mem_cons_self)] at h4
    rw [sum_congr (g := fun i => (if i = x then a else 0) + (if i ∈ L then a else 0)) (fun i _ => ?_), sum_add, h3, h4]
    · simp only [List.length_cons]
      rw [Int.natCast_add, Int.mul_add]
      simp
      omega
    · by_cases hi : i = x
      · subst hi
        rw [if_pos List.mem_cons_self, if_pos rfl, if_neg h1]; omega
      · by_cases hl : i ∈ L
        · rw [if_pos (List.mem_cons_of_mem _ hl), if_neg hi, if_pos hl]; omega
        · rw [if_neg (by rintro h; rcases List.mem_cons.1 h with h | h; exact hi h; exact hl h), if_neg hi, if_neg hl]; rfl
theorem sum_le {f g : Nat → Int} : ∀ {n : Nat}, (∀ i, i < n → f i ≤ g i) → sum f n ≤ sum g n
  | 0, _ => Int.le_refl _
  | n + 1, h => by have := sum_le (n := n) (fun i hi => h i (by omega)); have := h n (by omega); unfold sum; omega
theorem sum_const (a : Int) : ∀ n : Nat, sum (fun _ => a) n = a * n
  | 0 => by simp [sum]
  | n + 1 => by unfold sum; rw [sum_const a n, Int.natCast_add, Int.mul_add]; simp
theorem sum_mul (a : Int) (f : Nat → Int) : ∀ n, sum (fun i => a * f i) n = a * sum f n
  | 0 => by simp [sum]
  | n + 1 => by unfold sum; rw [sum_mul a f n, Int.mul_add]

def ed (G : List Node) (i s : Nat) : Int := if (tod G i s).isSome then 1 else 0
def dg (G : List Node) (i : Nat) : Int := ed G i 0 + ed G i 1 + ed G i 2
def bi (b : Bool) : Int := if b then 1 else 0
def fc (c : Nat → Nat → Bool) (i : Nat) : Int := bi (c i 0) + bi (c i 1) + bi (c i 2)
/-- The order of the corner opposite to a mirror. -/
def mu (o : Ord) (u : Nat) : Nat := if u = 0 then o.m 1 2 else if u = 1 then o.m 0 2 else o.m 0 1
def part (o : Ord) (u : Nat) : Int := ((27720 / mu o u : Nat) : Int)
def kap (o : Ord) (G : List Node) (c : Nat → Nat → Bool) (i : Nat) : Int := 55440 - 27720 * dg G i + (bi (c i 0) * part o 0 + bi (c i 1) * part o 1 + bi (c i 2) * part o 2)

/-- c tells which corners of which tiles are full. -/
structure Gh (o : Ord) (G : List Node) (c : Nat → Nat → Bool) (D : Int) : Prop where
  s1 : sum (kap o G c) G.length = 55440
  s2 : sum (fun i => dg G i - fc c i) G.length = D
  l0 : ∀ i u, c i u = true → u < 3 ∧ 0 < mu o u
  l1 : ∀ i u s, c i u = true → s < 3 → s ≠ u → tod G i s ≠ none
  l2 : ∀ i u s j, c i u = true → s ≠ u → tod G i s = some j → c j u = true

theorem gh_start (o : Ord) : Gh o start (fun _ _ => false) 0 := by
  have ht : ∀ r, tod start 0 r = none := fun r => rfl
  refine ⟨?_, ?_, fun _ _ h => (by cases h), fun _ _ _ h => (by cases h), fun _ _ _ _ h => (by cases h)⟩
  · show sum _ 1 = _
    simp [sum, kap, dg, ed, ht, bi]
  · show sum _ 1 = _
    simp [sum, dg, ed, ht, fc, bi]

theorem Gh.lt {o : Ord} {G : List Node} {c : Nat → Nat → Bool} {D : Int} (g : Gh o G c D) {i u : Nat} (h : c i u = true) : i < G.length := by
  have hu := (g.l0 i u h).1
  have h1 := g.l1 i u (if u = 0 then 1 else 0) h (by split <;> omega) (by split <;> omega)
  cases ht : tod G i (if u = 0 then 1 else 0) with
  | none => exact absurd ht h1
  | some j => exact tod_lt ht

/-- A few tiles, if the border is short. -/
theorem Gh.few {o : Ord} {G : List Node} {c : Nat → Nat → Bool} {D : Int} (g : Gh o G c D) (hsum : part o 0 + part o 1 + part o 2 < 27720) (hm : ∀ u, u < 3 → 0 ≤ part o u ∧ part o u ≤ 13860) (hd : ∀ i, i < G.length → i ≠ 0 → 1 ≤ dg G i) (h0 : 0 < G.length) :
    (G.length : Int) ≤ 27721 * D + 1 := by
  have h1 : ∀ i, i < G.length → kap o G c i + 1 ≤ 27721 * (dg G i - fc c i) + (if i = 0 then 55441 else 0) := fun i hi => by
    obtain ⟨sl, hsl, hdi⟩ : ∃ sl : Int, (if i = 0 then (55441 : Int) else 0) = sl ∧ (sl = 0 ∧ 1 ≤ dg G i ∨ sl = 55441) := by
      by_cases hi0 : i = 0
      · exact ⟨55441, if_pos hi0, .inr rfl⟩
      · exact ⟨0, if_neg hi0, .inl ⟨rfl, hd i hi hi0⟩⟩
    rw [hsl]
    have e : ∀ s, s < 3 → ed G i s = 0 ∨ ed G i s = 1 := fun s _ => by unfold ed; split <;> simp
    have k : ∀ u s, u < 3 → s < 3 → s ≠ u → c i u = true → ed G i s = 1 := fun u s _ hs hsu hc => by
      have := g.l1 i u s hc hs hsu
      unfold ed
      cases ht : tod G i s with
      | none => exact absurd ht this
      | some j => rfl
    have p0 := hm 0 (by omega)
    have p1 := hm 1 (by omega)
    have p2 := hm 2 (by omega)
    have e0 := e 0 (by omega)
    have e1 := e 1 (by omega)
    have e2 := e 2 (by omega)
    have k01 := k 0 1 (by omega) (by omega) (by omega)
    have k02 := k 0 2 (by omega) (by omega) (by omega)
    have k10 := k 1 0 (by omega) (by omega) (by omega)
    have k12 := k 1 2 (by omega) (by omega) (by omega)
    have k20 := k 2 0 (by omega) (by omega) (by omega)
    have k21 := k 2 1 (by omega) (by omega) (by omega)
    unfold kap fc dg at *
    cases h0 : c i 0 <;> cases h1 : c i 1 <;> cases h2 : c i 2 <;> simp only [h0, h1, h2, bi, if_true, Bool.false_eq_true, if_false, forall_const, false_implies] at k01 k02 k10 k12 k20 k21 ⊢ <;> omega
  have h2 := sum_le h1
  rw [sum_add (kap o G c) (fun _ => 1), g.s1, sum_const, sum_add (fun i => 27721 * (dg G i - fc c i)), sum_mul, g.s2, sum_one, if_pos h0] at h2
  omega

/-- So many steps down in turns, with the tiles on the way but the last one. -/
def ChL (G : List Node) : Nat → Nat → Nat → Nat → Nat → List Nat → Prop
  | 0, x, _, _, v, L => x = v ∧ L = []
  | k + 1, x, a, b, v, L => ∃ j L', dn G x a = some j ∧ ChL G k j b a v L' ∧ L = x :: L'

theorem ChL_of {G : List Node} : ∀ {k x a b v : Nat}, Dch G k x a b v → ∃ L, ChL G k x a b v L
  | 0, _, _, _, _, h => ⟨[], h, rfl⟩
  | k + 1, x, _, _, _, ⟨j, h1, h2⟩ => by obtain ⟨L, h3⟩ := ChL_of h2; exact ⟨x :: L, j, L, h1, h3, rfl⟩
theorem ChL_len {G : List Node} : ∀ {k x a b v : Nat} {L : List Nat}, ChL G k x a b v L → L.length = k
  | 0, _, _, _, _, _, ⟨_, h⟩ => by rw [h]; rfl
  | k + 1, _, _, _, _, _, ⟨j, L', _, h2, h3⟩ => by rw [h3, List.length_cons, ChL_len h2]
theorem ChL_dch {G : List Node} : ∀ {k x a b v : Nat} {L : List Nat}, ChL G k x a b v L → Dch G k x a b v
  | 0, _, _, _, _, _, ⟨h, _⟩ => h
  | k + 1, _, _, _, _, _, ⟨j, L', h1, h2, _⟩ => ⟨j, h1, ChL_dch h2⟩

/-- The one of two letters that comes behind n letters in turns. -/
def turnAt (n a b : Nat) : Nat := if n % 2 = 0 then a else b
theorem turnAt_succ (n a b : Nat) : turnAt (n + 1) a b = turnAt n b a := by
  unfold turnAt
  by_cases h : n % 2 = 0
  · rw [if_neg (by omega), if_pos h]
  · rw [if_pos (by omega), if_neg h]

theorem ChL_mem {G : List Node} : ∀ {k x a b v : Nat} {L : List Nat} {p : Nat}, ChL G k x a b v L → p ∈ L → ∃ n, n < k ∧ Dch G (k - n) p (turnAt n a b) (turnAt n b a) v
  | 0, _, _, _, _, _, _, ⟨_, h⟩, hp => by rw [h] at hp; cases hp
  | k + 1, x, a, b, v, _, p, ⟨j, L', h1, h2, h3⟩, hp => by
    subst h3
    rcases List.mem_cons.1 hp with rfl | hp
    · exact ⟨0, by omega, j, h1, ChL_dch h2⟩
    · obtain ⟨n, h4, h5⟩ := ChL_mem h2 hp
      exact ⟨n + 1, by omega, by rw [turnAt_succ, turnAt_succ, show k + 1 - (n + 1) = k - n by omega]; exact h5⟩

section
variable {o : Ord} {G : List Node} {E : Nat → Prop}

theorem ChL_nodup (I : Inv o G E) : ∀ {k x a b v : Nat} {L : List Nat}, ChL G k x a b v L → L.Nodup
  | 0, _, _, _, _, _, ⟨_, h⟩ => by rw [h]; exact List.nodup_nil
  | k + 1, x, a, b, v, _, ⟨j, L', h1, h2, h3⟩ => by
    subst h3
    refine List.nodup_cons.2 ⟨fun hx => ?_, ChL_nodup I h2⟩
    obtain ⟨n, h4, h5⟩ := ChL_mem h2 hx
    have := Dch_len I h5
    have := Dch_len I (ChL_dch h2)
    have := (I.lo' h1).2.2.2.2
    omega

theorem ChL_lt (I : Inv o G E) : ∀ {k x a b v : Nat} {L : List Nat} {p : Nat}, ChL G k x a b v L → p ∈ L → p < G.length
  | 0, _, _, _, _, _, _, ⟨_, h⟩, hp => by rw [h] at hp; cases hp
  | k + 1, x, a, b, v, _, p, ⟨j, L', h1, h2, h3⟩, hp => by
    subst h3
    rcases List.mem_cons.1 hp with rfl | hp
    · exact tod_lt (I.lo' h1).2.2.1
    · exact ChL_lt I h2 hp

/-- What is known at the tiles of a chain. -/
theorem ChL_known (I : Inv o G E) : ∀ {k x a b v : Nat} {L : List Nat} {p : Nat}, ChL G k x a b v L → p ∈ L → tod G p a ≠ none ∧ tod G p b ≠ none ∨ p = x ∧ tod G p a ≠ none
  | 0, _, _, _, _, _, _, ⟨_, h⟩, hp => by rw [h] at hp; cases hp
  | k + 1, x, a, b, v, _, p, ⟨j, L', h1, h2, h3⟩, hp => by
    subst h3
    rcases List.mem_cons.1 hp with rfl | hp
    · exact .inr ⟨rfl, by rw [(I.lo' h1).2.2.1]; simp⟩
    · rcases ChL_known I h2 hp with h4 | ⟨rfl, h4⟩
      · exact .inl h4.symm
      · exact .inl ⟨by rw [(I.lo' h1).2.2.2.1]; simp, h4⟩

theorem ChL_last (I : Inv o G E) : ∀ {k x a b v : Nat} {L : List Nat}, ChL G (k + 1) x a b v L → ∃ j, tod G v (turnAt k a b) = some j ∧ j ∈ L
  | 0, x, a, b, v, _, ⟨j, L', h1, ⟨h2, h4⟩, h3⟩ => by
    subst h2
    subst h3
    exact ⟨x, (I.lo' h1).2.2.2.1, List.mem_cons_self⟩
  | k + 1, x, a, b, v, _, ⟨j, L', h1, h2, h3⟩ => by
    subst h3
    obtain ⟨p, h4, h5⟩ := ChL_last I h2
    rw [turnAt_succ]
    exact ⟨p, h4, List.mem_cons_of_mem _ h5⟩

/-- The neighbours in the corner of a tile of a chain are in the chain, but for one of the first. -/
theorem ChL_next (I : Inv o G E) : ∀ {k x a b v : Nat} {L : List Nat} {p r j : Nat}, ChL G k x a b v L → p ∈ L → r = a ∨ r = b → tod G p r = some j → (p = x ∧ r = b) ∨ j = v ∨ j ∈ L
  | 0, _, _, _, _, _, _, _, _, ⟨_, h⟩, hp, _, _ => by rw [h] at hp; cases hp
  | k + 1, x, a, b, v, _, p, r, j, ⟨j0, L', h1, h2, h3⟩, hp, hr, hj => by
    subst h3
    rcases List.mem_cons.1 hp with rfl | hp
    · rcases hr with rfl | rfl
      · cases hj.symm.trans (I.lo' h1).2.2.1
        right
        cases k with
        | zero => exact .inl h2.1
        | succ k =>
          obtain ⟨_, _, _, _, h4⟩ := h2
          right
          rw [h4]
          exact List.mem_cons_of_mem _ List.mem_cons_self
      · exact .inl ⟨rfl, rfl⟩
    · rcases ChL_next I h2 hp hr.symm hj with ⟨rfl, rfl⟩ | h4 | h4
      · cases hj.symm.trans (I.lo' h1).2.2.2.1
        exact .inr (.inr List.mem_cons_self)
      · exact .inr (.inl h4)
      · exact .inr (.inr (List.mem_cons_of_mem _ h4))

theorem ChL_full (I : Inv o G E) {c : Nat → Nat → Bool} {D : Int} (g : Gh o G c D) {u : Nat} : ∀ {k x a b v : Nat} {L : List Nat} {p : Nat}, a ≠ u → b ≠ u → ChL G k x a b v L → p ∈ L → (c p u = true ↔ c v u = true)
  | 0, _, _, _, _, _, _, _, _, ⟨_, h⟩, hp => by rw [h] at hp; cases hp
  | k + 1, x, a, b, v, _, p, ha, hb, ⟨j, L', h1, h2, h3⟩, hp => by
    subst h3
    have hxj : c x u = true ↔ c j u = true := ⟨fun h => g.l2 _ _ _ _ h ha (I.lo' h1).2.2.1, fun h => g.l2 _ _ _ _ h ha (I.lo' h1).2.2.2.1⟩
    have hjv : c j u = true ↔ c v u = true := by
      cases k with
      | zero => rw [h2.1]
      | succ k =>
        have h2' := h2
        obtain ⟨_, _, _, _, h4⟩ := h2'
        exact ChL_full I g hb ha h2 (by rw [h4]; exact List.mem_cons_self)
    rcases List.mem_cons.1 hp with rfl | hp
    · exact hxj.trans hjv
    · exact ChL_full I g hb ha h2 hp
end

theorem mu_of {o : Ord} {s t u : Nat} (hs : s < 3) (ht : t < 3) (hu : u < 3) (h1 : s ≠ t) (h2 : s ≠ u) (h3 : t ≠ u) : mu o u = o.m s t := by
  unfold mu
  have hs' : s = 0 ∨ s = 1 ∨ s = 2 := by omega
  have ht' : t = 0 ∨ t = 1 ∨ t = 2 := by omega
  have hu' : u = 0 ∨ u = 1 ∨ u = 2 := by omega
  rcases hs' with rfl | rfl | rfl <;> rcases ht' with rfl | rfl | rfl <;> rcases hu' with rfl | rfl | rfl <;> simp at h1 h2 h3 ⊢ <;> exact o.m_comm _ _

theorem ed_link {G : List Node} {z y t i r : Nat} (hz : z < G.length) (hy : y < G.length) (hzy : z ≠ y) (n1 : tod G z t = none) (n2 : tod G y t = none) :
    ed (link G z y t) i r = ed G i r + (if i = z then (if r = t then 1 else 0) else 0) + (if i = y then (if r = t then 1 else 0) else 0) := by
  unfold ed
  rw [tod_link hz hy hzy]
  by_cases hr : r = t
  · subst hr
    by_cases h1 : i = z
    · subst h1
      rw [n1]; simp [hzy]
    · by_cases h2 : i = y
      · subst h2
        rw [n2]; simp [h1]
      · simp [h1, h2]
  · simp [hr]

theorem dg_link {G : List Node} {z y t i : Nat} (hz : z < G.length) (hy : y < G.length) (hzy : z ≠ y) (ht : t < 3) (n1 : tod G z t = none) (n2 : tod G y t = none) :
    dg (link G z y t) i = dg G i + (if i = z then 1 else 0) + (if i = y then 1 else 0) := by
  unfold dg
  rw [ed_link hz hy hzy n1 n2, ed_link hz hy hzy n1 n2, ed_link hz hy hzy n1 n2]
  have ht' : t = 0 ∨ t = 1 ∨ t = 2 := by omega
  by_cases h1 : i = z <;> by_cases h2 : i = y <;> rcases ht' with rfl | rfl | rfl <;> simp [h1, h2] <;> omega

/-- A new tile over a side. -/
theorem Gh.sprout {o : Ord} {G : List Node} {c : Nat → Nat → Bool} {D : Int} (g : Gh o G c D) {x s : Nat} (w : Word) (hx : x < G.length) (hs : s < 3) (hn : tod G x s = none) : Gh o (link (G ++ [Hy.fresh w]) x G.length s) c (D + 2) := by
  have hx0 : x < (G ++ [Hy.fresh w]).length := by simp; omega
  have hy0 : G.length < (G ++ [Hy.fresh w]).length := by simp
  have hxy : x ≠ G.length := by omega
  have n1 : tod (G ++ [Hy.fresh w]) x s = none := by rw [tod_fresh]; exact hn
  have n2 : ∀ r, tod (G ++ [Hy.fresh w]) G.length r = none := fun r => by
    rw [tod_fresh]
    cases h : tod G G.length r with
    | none => rfl
    | some j => have := tod_lt h; omega
  have hcy : ∀ u, c G.length u = false := fun u => by
    cases h : c G.length u with
    | false => rfl
    | true => have := g.lt h; omega
  have hdg : ∀ i, dg (link (G ++ [Hy.fresh w]) x G.length s) i = dg G i + (if i = x then 1 else 0) + (if i = G.length then 1 else 0) := fun i => by
    rw [dg_link hx0 hy0 hxy hs n1 (n2 s)]
    congr 2
    unfold dg ed
    simp only [tod_fresh]
  have hlen : (link (G ++ [Hy.fresh w]) x G.length s).length = G.length + 1 := by rw [length_link]; simp
  have hd0 : dg G G.length = 0 := by
    unfold dg ed
    have : ∀ r, tod G G.length r = none := fun r => by have := n2 r; rw [tod_fresh] at this; exact this
    simp [this]
  refine ⟨?_, ?_, g.l0, fun i u r hc hr hru => ?_, fun i u r j hc hru hj => ?_⟩
  · rw [hlen]
    unfold sum
    rw [sum_congr (g := fun i => kap o G c i + (if i = x then -27720 else 0)) (fun i hi => ?_), sum_add, g.s1, sum_one, if_pos hx]
    · unfold kap
      rw [hdg, hd0, if_neg (by omega), if_pos rfl, hcy, hcy, hcy]
      simp [bi]
    · unfold kap
      rw [hdg, if_neg (show ¬ i = G.length by omega)]
      by_cases h : i = x
      · rw [if_pos h, if_pos h]; omega
      · rw [if_neg h, if_neg h]; omega
  · rw [hlen]
    unfold sum
    rw [sum_congr (g := fun i => (dg G i - fc c i) + (if i = x then 1 else 0)) (fun i hi => ?_), sum_add, g.s2, sum_one, if_pos hx]
    · rw [hdg, hd0, if_neg (by omega), if_pos rfl]
      unfold fc
      rw [hcy, hcy, hcy]
      simp [bi]
      omega
    · rw [hdg, if_neg (show ¬ i = G.length by omega)]; omega
  · have h1 := g.l1 i u r hc hr hru
    rw [tod_link hx0 hy0 hxy]
    by_cases h2 : r = s ∧ i = x
    · rw [if_pos h2]; simp
    · rw [if_neg h2]
      by_cases h3 : r = s ∧ i = G.length
      · rw [if_pos h3]; simp
      · rw [if_neg h3, tod_fresh]; exact h1
  · have hu := (g.l0 i u hc).1
    rw [tod_link hx0 hy0 hxy] at hj
    by_cases h2 : r = s ∧ i = x
    · obtain ⟨rfl, rfl⟩ := h2
      exact absurd hn (g.l1 i u r hc hs hru)
    · rw [if_neg h2] at hj
      by_cases h3 : r = s ∧ i = G.length
      · have := g.lt hc; omega
      · rw [if_neg h3, tod_fresh] at hj; exact g.l2 i u r j hc hru hj

/-- A corner is closed. -/
theorem Gh.close {o : Ord} {G : List Node} {E : Nat → Prop} (I : Inv o G E) {c : Nat → Nat → Bool} {D : Int} (g : Gh o G c D) {x y z s t v k : Nat} (hz : z < G.length) (hy : y < G.length) (hs : s < 3) (ht : t < 3) (hst : s ≠ t) (hm : o.m s t = k + 2) (hm12 : o.m s t ≤ 12)
    (n1 : tod G z t = none) (n2 : tod G y t = none) (hA : Dch G (k + 2) y s t v) (hB : Dch G (k + 1) z s t v) (b1 : dnb G v s = false) (b2 : dnb G v t = false) :
    ∃ c', Gh o (link G z y t) c' (D + 2 - 2 * ((k + 2 : Nat) : Int)) := by
  obtain ⟨u, hu, hsu, htu⟩ : ∃ u, u < 3 ∧ s ≠ u ∧ t ≠ u := ⟨3 - s - t, by omega, by omega, by omega⟩
  have hmu : mu o u = k + 2 := by rw [mu_of hs ht hu hst hsu htu, hm]
  obtain ⟨LA, hLA⟩ := ChL_of hA
  obtain ⟨LB, hLB⟩ := ChL_of hB
  have hlA := Dch_len I hA
  have hlB := Dch_len I hB
  have hzy : z ≠ y := by rintro rfl; omega
  have hyA : y ∈ LA := by obtain ⟨_, _, _, _, h⟩ := hLA; rw [h]; exact List.mem_cons_self
  have hzB : z ∈ LB := by obtain ⟨_, _, _, _, h⟩ := hLB; rw [h]; exact List.mem_cons_self
  -- none of the corner was full
  have hcy : c y u = false := by
    cases h : c y u with
    | false => rfl
    | true => exact absurd n2 (g.l1 y u t h ht htu)
  have hcv : c v u = false := by
    cases h : c v u with
    | false => rfl
    | true => rw [(ChL_full I g hsu htu hLA hyA).2 h] at hcy; cases hcy
  have hcA : ∀ p ∈ LA, c p u = false := fun p hp => by
    cases h : c p u with
    | false => rfl
    | true => rw [(ChL_full I g hsu htu hLA hp).1 h] at hcv; cases hcv
  have hcB : ∀ p ∈ LB, c p u = false := fun p hp => by
    cases h : c p u with
    | false => rfl
    | true => rw [(ChL_full I g hsu htu hLB hp).1 h] at hcv; cases hcv
  have hlenA := ChL_len hLA
  have hlenB := ChL_len hLB
  have turn2 : ∀ n, (turnAt n s t = s ∧ turnAt n t s = t) ∨ (turnAt n s t = t ∧ turnAt n t s = s) := fun n => by
    unfold turnAt
    by_cases h : n % 2 = 0
    · rw [if_pos h, if_pos h]; exact .inl ⟨rfl, rfl⟩
    · rw [if_neg h, if_neg h]; exact .inr ⟨rfl, rfl⟩
  -- the tiles of the corner are different
  have hdis : ∀ p, p ∈ LA → p ∈ LB → False := fun p hpA hpB => by
    obtain ⟨n, hn1, hn2⟩ := ChL_mem hLA hpA
    obtain ⟨n', hn3, hn4⟩ := ChL_mem hLB hpB
    have e1 := Dch_len I hn2
    have e2 := Dch_len I hn4
    have e3 : n = n' + 1 := by omega
    subst e3
    rw [turnAt_succ, turnAt_succ] at hn2
    have hdown : dnb G p (turnAt n' s t) = true := by
      obtain ⟨q, hq⟩ : ∃ q, k + 1 - n' = q + 1 := ⟨k - n', by omega⟩
      rw [hq] at hn4
      obtain ⟨j, h1, _⟩ := hn4
      exact (I.lo' h1).2.1
    have : dnb G p (turnAt n' s t) = false := by
      rcases turn2 n' with ⟨e4, e5⟩ | ⟨e4, e5⟩
      · rw [e4, e5] at hn2
        rw [e4]
        exact I.notdown hst b1 b2 (by omega) hn2
      · rw [e4, e5] at hn2
        rw [e4]
        exact I.notdown hst.symm b2 b1 (by rw [o.m_comm]; omega) hn2
    rw [this] at hdown; cases hdown
  have hvA : v ∉ LA := fun h => by
    obtain ⟨n, hn1, hn2⟩ := ChL_mem hLA h
    have := Dch_len I hn2
    omega
  have hvB : v ∉ LB := fun h => by
    obtain ⟨n, hn1, hn2⟩ := ChL_mem hLB h
    have := Dch_len I hn2
    omega
  obtain ⟨C, hC⟩ : ∃ C, C = v :: (LA ++ LB) := ⟨_, rfl⟩
  have memC : ∀ {p}, p ∈ C ↔ p = v ∨ p ∈ LA ∨ p ∈ LB := fun {p} => by rw [hC, List.mem_cons, List.mem_append]
  have hnd : C.Nodup := by
    rw [hC]
    refine List.nodup_cons.2 ⟨fun h => (List.mem_append.1 h).elim hvA hvB, List.nodup_append.2 ⟨ChL_nodup I hLA, ChL_nodup I hLB, fun a ha b hb hab => hdis a ha (hab ▸ hb)⟩⟩
  have hCl : C.length = k + 2 + (k + 2) := by rw [hC, List.length_cons, List.length_append, hlenA, hlenB]; omega
  have hvl : v < G.length := Dch_lt I hy hA
  have hClt : ∀ p ∈ C, p < G.length := fun p hp => by
    rcases memC.1 hp with rfl | hp | hp
    · exact hvl
    · exact ChL_lt I hLA hp
    · exact ChL_lt I hLB hp
  have hcC : ∀ p ∈ C, c p u = false := fun p hp => by
    rcases memC.1 hp with rfl | hp | hp
    · exact hcv
    · exact hcA p hp
    · exact hcB p hp
  have hlen : (link G z y t).length = G.length := length_link _ _ _ _
  have hdg := fun i => dg_link (i := i) hz hy hzy ht n1 n2
  have hT := fun i r => tod_link (t := t) (i := i) (r := r) hz hy hzy
  have hT' : ∀ {i r j}, tod G i r = some j → tod (link G z y t) i r = some j := fun {i r j} h => by
    rw [hT, if_neg (by rintro ⟨rfl, rfl⟩; rw [n1] at h; cases h), if_neg (by rintro ⟨rfl, rfl⟩; rw [n2] at h; cases h)]; exact h
  have hT'' : ∀ {i r}, tod G i r ≠ none → tod (link G z y t) i r ≠ none := fun {i r} h => by
    cases hh : tod G i r with
    | none => exact absurd hh h
    | some j => rw [hT' hh]; simp
  have st : ∀ r, r < 3 → r ≠ u → r = s ∨ r = t := fun r _ _ => by omega
  have hst1 := (ChL_last I hLA)
  have hst2 := (ChL_last I hLB)
  rw [turnAt_succ] at hst1
  refine ⟨fun i r => c i r || (decide (r = u) && decide (i ∈ C)), ?_, ?_, fun i r h => ?_, fun i r q h hq hqr => ?_, fun i r q j h hqr hj => ?_⟩
  · -- the curvatures
    rw [hlen]
    have hpart : part o u * ((k + 2 + (k + 2) : Nat) : Int) = 55440 := by
      unfold part
      rw [hmu]
      have hk : k + 2 ≤ 12 := by omega
      have : k = 0 ∨ k = 1 ∨ k = 2 ∨ k = 3 ∨ k = 4 ∨ k = 5 ∨ k = 6 ∨ k = 7 ∨ k = 8 ∨ k = 9 ∨ k = 10 := by omega
      rcases this with rfl | rfl | rfl | rfl | rfl | rfl | rfl | rfl | rfl | rfl | rfl <;> decide
    have key : ∀ i, i < G.length → kap o (link G z y t) (fun i r => c i r || (decide (r = u) && decide (i ∈ C))) i = (kap o G c i + ((if i = z then -27720 else 0) + (if i = y then -27720 else 0))) + (if i ∈ C then part o u else 0) := fun i _ => by
      unfold kap
      rw [hdg]
      have hz' : 27720 * (dg G i + (if i = z then (1 : Int) else 0) + (if i = y then 1 else 0)) = 27720 * dg G i - (if i = z then -27720 else 0) - (if i = y then -27720 else 0) := by
        by_cases h1 : i = z <;> by_cases h2 : i = y <;> simp [h1, h2] <;> omega
      rw [hz']
      have hu' : u = 0 ∨ u = 1 ∨ u = 2 := by omega
      by_cases hiC : i ∈ C
      · have hc0 := hcC i hiC
        rcases hu' with rfl | rfl | rfl <;> simp [hiC, hc0, bi] <;> omega
      · simp [hiC]
        omega
    rw [sum_congr key, sum_add, sum_add, sum_add, g.s1, sum_one, sum_one, if_pos hz, if_pos hy, sum_mem _ C _ hnd hClt, hCl, hpart]
    omega
  · rw [hlen]
    have key : ∀ i, i < G.length → dg (link G z y t) i - fc (fun i r => c i r || (decide (r = u) && decide (i ∈ C))) i = ((dg G i - fc c i) + ((if i = z then 1 else 0) + (if i = y then 1 else 0))) + (if i ∈ C then -1 else 0) := fun i _ => by
      rw [hdg]
      unfold fc
      have hu' : u = 0 ∨ u = 1 ∨ u = 2 := by omega
      by_cases hiC : i ∈ C
      · have hc0 := hcC i hiC
        rcases hu' with rfl | rfl | rfl <;> simp [hiC, hc0, bi] <;> omega
      · simp [hiC]
        omega
    rw [sum_congr key, sum_add, sum_add, sum_add, g.s2, sum_one, sum_one, if_pos hz, if_pos hy, sum_mem _ C _ hnd hClt, hCl]
    omega
  · simp only [Bool.or_eq_true, Bool.and_eq_true, decide_eq_true_eq] at h
    rcases h with h | ⟨rfl, h⟩
    · exact g.l0 i r h
    · exact ⟨hu, by omega⟩
  · simp only [Bool.or_eq_true, Bool.and_eq_true, decide_eq_true_eq] at h
    rcases h with h | ⟨rfl, h⟩
    · exact hT'' (g.l1 i r q h hq hqr)
    · rcases memC.1 h with rfl | hp | hp
      · -- the bottom
        obtain ⟨j1, e1, _⟩ := hst1
        obtain ⟨j2, e2, _⟩ := hst2
        rcases st q hq hqr with rfl | rfl <;> rcases turn2 k with ⟨t1, t2⟩ | ⟨t1, t2⟩
        · rw [t1] at e2; rw [hT' e2]; simp
        · rw [t2] at e1; rw [hT' e1]; simp
        · rw [t2] at e1; rw [hT' e1]; simp
        · rw [t1] at e2; rw [hT' e2]; simp
      · rcases ChL_known I hLA hp with ⟨h1, h2⟩ | ⟨rfl, h1⟩
        · rcases st q hq hqr with rfl | rfl
          · exact hT'' h1
          · exact hT'' h2
        · rcases st q hq hqr with rfl | rfl
          · exact hT'' h1
          · rw [hT, if_neg (by rintro ⟨_, e⟩; exact hzy e.symm), if_pos ⟨rfl, rfl⟩]; simp
      · rcases ChL_known I hLB hp with ⟨h1, h2⟩ | ⟨rfl, h1⟩
        · rcases st q hq hqr with rfl | rfl
          · exact hT'' h1
          · exact hT'' h2
        · rcases st q hq hqr with rfl | rfl
          · exact hT'' h1
          · rw [hT, if_pos ⟨rfl, rfl⟩]; simp
  · simp only [Bool.or_eq_true, Bool.and_eq_true, decide_eq_true_eq] at h ⊢
    rw [hT] at hj
    rcases h with h | ⟨rfl, h⟩
    · left
      by_cases c1 : q = t ∧ i = z
      · obtain ⟨rfl, rfl⟩ := c1
        exact absurd n1 (g.l1 i r q h ht hqr)
      · rw [if_neg c1] at hj
        by_cases c2 : q = t ∧ i = y
        · obtain ⟨rfl, rfl⟩ := c2
          exact absurd n2 (g.l1 i r q h ht hqr)
        · rw [if_neg c2] at hj; exact g.l2 i r q j h hqr hj
    · right
      refine ⟨rfl, ?_⟩
      by_cases c1 : q = t ∧ i = z
      · rw [if_pos c1] at hj; cases hj
        exact memC.2 (.inr (.inl hyA))
      · rw [if_neg c1] at hj
        by_cases c2 : q = t ∧ i = y
        · rw [if_pos c2] at hj; cases hj
          exact memC.2 (.inr (.inr hzB))
        · rw [if_neg c2] at hj
          have hq3 := (I.sym hj).1
          rcases memC.1 h with rfl | hp | hp
          · obtain ⟨j1, e1, m1⟩ := hst1
            obtain ⟨j2, e2, m2⟩ := hst2
            rcases st q hq3 hqr with rfl | rfl <;> rcases turn2 k with ⟨t1, t2⟩ | ⟨t1, t2⟩
            · rw [t1] at e2; cases hj.symm.trans e2; exact memC.2 (.inr (.inr m2))
            · rw [t2] at e1; cases hj.symm.trans e1; exact memC.2 (.inr (.inl m1))
            · rw [t2] at e1; cases hj.symm.trans e1; exact memC.2 (.inr (.inl m1))
            · rw [t1] at e2; cases hj.symm.trans e2; exact memC.2 (.inr (.inr m2))
          · rcases ChL_next I hLA hp (st q hq3 hqr) hj with ⟨rfl, rfl⟩ | h4 | h4
            · exact absurd ⟨rfl, rfl⟩ c2
            · exact memC.2 (.inl h4)
            · exact memC.2 (.inr (.inl h4))
          · rcases ChL_next I hLB hp (st q hq3 hqr) hj with ⟨rfl, rfl⟩ | h4 | h4
            · exact absurd ⟨rfl, rfl⟩ c1
            · exact memC.2 (.inl h4)
            · exact memC.2 (.inr (.inr h4))

/-- Another word changes nothing. -/
theorem Gh.word {o : Ord} {G : List Node} {c : Nat → Nat → Bool} {D : Int} (g : Gh o G c D) (y : Nat) (w : Word) : Gh o (G.modify y (setWord w)) c D := by
  have ht : ∀ i r, tod (G.modify y (setWord w)) i r = tod G i r := fun i r => tod_word
  have hd : ∀ i, dg (G.modify y (setWord w)) i = dg G i := fun i => by unfold dg ed; simp only [ht]
  refine ⟨?_, ?_, g.l0, fun i u s hc hs hsu => by rw [ht]; exact g.l1 i u s hc hs hsu, fun i u s j hc hsu hj => by rw [ht] at hj; exact g.l2 i u s j hc hsu hj⟩
  · rw [List.length_modify, ← g.s1]
    exact sum_congr fun i _ => by unfold kap; rw [hd]
  · rw [List.length_modify, ← g.s2]
    exact sum_congr fun i _ => by rw [hd]

end Hy
