import Derived.Test.YtfdklmpkienfhaaGreatProg
import Derived.WalkKit
import Derived.WalkSpells
import Derived.WalkLawsBesides
import Derived.Deep.LoopGhost
import Derived.Deep.QuietTactic
import Derived.BigQuiet
import Derived.Lib.Hide
import Derived.WalkSmall

/- Plain Lean, no program: the tiles of three orders as a graph that grows, and the small checks, as functions. -/
namespace Hy
set_option linter.unusedSimpArgs false
set_option linter.unusedVariables false

/-- A tile: its word, its neighbours as far as they are known, which sides lead down. -/
structure Node where
  word : List UInt8
  to : Nat → Option Nat
  down : Nat → Bool

/-- The orders 01, 12, 02. -/
structure Ord where
  m01 : Nat
  m12 : Nat
  m02 : Nat
  deriving DecidableEq

def Ord.m (o : Ord) (i j : Nat) : Nat := if i + j = 1 then o.m01 else if i + j = 2 then o.m02 else o.m12

def setTo (s j : Nat) (n : Node) : Node := { n with to := fun k => if k = s then some j else n.to k }
def setDown (s : Nat) (n : Node) : Node := { n with down := fun k => if k = s then true else n.down k }
def setWord (w : List UInt8) (n : Node) : Node := { n with word := w }
def fresh (w : List UInt8) : Node := { word := w, to := fun _ => none, down := fun _ => false }

def link (G : List Node) (near far s : Nat) : List Node := (G.modify near (setTo s far)).modify far (fun n => setDown s (setTo s near n))

/-- So many steps down in turns: none: not known; some none: a step does not lead down. -/
def lowest (G : List Node) : Nat → Nat → Nat → Nat → Option (Option Nat)
  | 0, t, _, _ => some (some t)
  | k + 1, t, i, j =>
    match G[t]? with
    | none => none
    | some n => if n.down i then (match n.to i with | none => none | some t' => lowest G k t' j i) else some none

def climb (f : List Node → Nat → Nat → Option (List Node × Nat)) : Nat → List Node → Nat → Nat → Nat → Option (List Node × Nat)
  | 0, G, z, _, _ => some (G, z)
  | k + 1, G, z, l, l' => match f G z l with | none => none | some (G', z') => climb f k G' z' l' l

/-- The order of texts. -/
def less : List UInt8 → List UInt8 → Bool
  | _, [] => false
  | [], _ :: _ => true
  | a :: x, b :: y => a < b || (a == b && less x y)

def letter (s : Nat) : List UInt8 := [UInt8.ofNat s]

/-- One of the corners at the new tile y over the side s of x. -/
def corner (o : Ord) (f : List Node → Nat → Nat → Option (List Node × Nat)) (x s y : Nat) (G : List Node) (t : Nat) : Option (List Node) :=
  if t = s ∨ o.m s t = 0 then some G else
  match lowest G (o.m s t - 1) x t s with
  | none => none
  | some none => some G
  | some (some v) =>
    match climb f (o.m s t - 1) G v (if o.m s t % 2 = 0 then s else t) (if o.m s t % 2 = 0 then t else s) with
    | none => none
    | some (G', z) =>
      if z = y then none else
      match (link G' z y t)[z]?, (link G' z y t)[y]? with
      | some nz, some ny => if 1000 ≤ nz.word.length then none else some (if less (nz.word ++ letter t) ny.word then (link G' z y t).modify y (setWord (nz.word ++ letter t)) else link G' z y t)
      | _, _ => none

/-- The corners from 3 - r on. -/
def corners (o : Ord) (f : List Node → Nat → Nat → Option (List Node × Nat)) (x s y : Nat) : Nat → List Node → Option (List Node)
  | 0, G => some G
  | r + 1, G => match corner o f x s y G (3 - (r + 1)) with | none => none | some G' => corners o f x s y r G'

/-- The graph with the new tile over the side s of x. -/
def sprout (G : List Node) (n : Node) (x s : Nat) : List Node := link (G ++ [fresh (n.word ++ letter s)]) x G.length s

def step (o : Ord) : Nat → List Node → Nat → Nat → Option (List Node × Nat)
  | 0, _, _, _ => none
  | fuel + 1, G, x, s =>
    match G[x]? with
    | none => none
    | some n =>
      match n.to s with
      | some y => some (G, y)
      | none => if 1000 ≤ n.word.length then none else match corners o (step o fuel) x s G.length 3 (sprout G n x s) with | none => none | some G' => some (G', G.length)

def walk (o : Ord) (fuel : Nat) : List Node → Nat → List UInt8 → Option (List Node × Nat)
  | G, x, [] => some (G, x)
  | G, x, c :: w => match step o fuel G x c.toNat with | none => none | some (G', x') => walk o fuel G' x' w

def start : List Node := [fresh []]

/-- The error of a word. -/
def wordErr (w : List UInt8) : Int := if w.any (2 < ·) then 1 else if 60 < w.length then 4 else 0

/-- The error of orders. -/
def badOrder (m : Int) : Bool := m < 0 || m == 1 || 12 < m
def ordStep (s : Nat × Nat × Nat) (m : Nat) : Nat × Nat × Nat := if 0 < m then (s.1 / Nat.gcd s.1 m * m, s.2.1 * m + s.2.2, s.2.2 * m) else s
def ordErr (a b c : Int) : Int :=
  if badOrder a || badOrder b || badOrder c then 1
  else
    let s := ordStep (ordStep (ordStep (1, 0, 1) a.toNat) b.toNat) c.toNat
    if s.2.2 ≤ s.2.1 then 1 else if 60 < s.1 then 4 else 0

/-- What a corner comes to, case by case. -/
theorem corner_cases {o : Ord} {f : List Node → Nat → Nat → Option (List Node × Nat)} {x s y t : Nat} {G G1 : List Node} (hc : corner o f x s y G t = some G1) :
    (t = s ∧ G1 = G) ∨ (t ≠ s ∧ o.m s t = 0 ∧ G1 = G) ∨ (∃ m, t ≠ s ∧ o.m s t = m + 1 ∧ lowest G m x t s = some none ∧ G1 = G) ∨
    (∃ m v G' z nz ny, t ≠ s ∧ o.m s t = m + 1 ∧ lowest G m x t s = some (some v) ∧ climb f m G v (if (m + 1) % 2 = 0 then s else t) (if (m + 1) % 2 = 0 then t else s) = some (G', z) ∧ z ≠ y ∧
      (link G' z y t)[z]? = some nz ∧ (link G' z y t)[y]? = some ny ∧ nz.word.length < 1000 ∧
      G1 = if less (nz.word ++ letter t) ny.word then (link G' z y t).modify y (setWord (nz.word ++ letter t)) else link G' z y t) := by
  unfold corner at hc
  by_cases h1 : t = s
  · rw [if_pos (.inl h1)] at hc
    exact .inl ⟨h1, by cases hc; rfl⟩
  by_cases h2 : o.m s t = 0
  · rw [if_pos (.inr h2)] at hc
    exact .inr (.inl ⟨h1, h2, by cases hc; rfl⟩)
  rw [if_neg (by rintro (h | h); exact h1 h; exact h2 h)] at hc
  obtain ⟨m, hm⟩ : ∃ m, o.m s t = m + 1 := ⟨o.m s t - 1, by omega⟩
  rw [hm, Nat.add_sub_cancel] at hc
  cases hl : lowest G m x t s with
  | none => rw [hl] at hc; cases hc
  | some r =>
    rw [hl] at hc
    cases r with
    | none => exact .inr (.inr (.inl ⟨m, h1, hm, hl, by cases hc; rfl⟩))
    | some v =>
      simp only at hc
      cases hcl : climb f m G v (if (m + 1) % 2 = 0 then s else t) (if (m + 1) % 2 = 0 then t else s) with
      | none => rw [hcl] at hc; cases hc
      | some p =>
        obtain ⟨G', z⟩ := p
        rw [hcl] at hc
        simp only at hc
        by_cases hz : z = y
        · rw [if_pos hz] at hc; cases hc
        rw [if_neg hz] at hc
        cases hnz : (link G' z y t)[z]? with
        | none => rw [hnz] at hc; cases hc
        | some nz =>
          cases hny : (link G' z y t)[y]? with
          | none => rw [hnz, hny] at hc; cases hc
          | some ny =>
            rw [hnz, hny] at hc
            simp only at hc
            by_cases hlen : 1000 ≤ nz.word.length
            · rw [if_pos hlen] at hc; cases hc
            · rw [if_neg hlen] at hc
              exact .inr (.inr (.inr ⟨m, v, G', z, nz, ny, h1, hm, hl, hcl, hz, hnz, hny, by omega, by cases hc; rfl⟩))

theorem corners_succ {o : Ord} {f : List Node → Nat → Nat → Option (List Node × Nat)} {x s y r : Nat} {G Gc : List Node} (h : corners o f x s y (r + 1) G = some Gc) :
    ∃ G1, corner o f x s y G (3 - (r + 1)) = some G1 ∧ corners o f x s y r G1 = some Gc := by
  unfold corners at h
  cases hc : corner o f x s y G (3 - (r + 1)) with
  | none => rw [hc] at h; cases h
  | some G1 => rw [hc] at h; exact ⟨G1, rfl, h⟩

theorem climb_succ {f : List Node → Nat → Nat → Option (List Node × Nat)} {k z l l' z'' : Nat} {G G'' : List Node} (h : climb f (k + 1) G z l l' = some (G'', z'')) :
    ∃ G' z', f G z l = some (G', z') ∧ climb f k G' z' l' l = some (G'', z'') := by
  unfold climb at h
  cases hc : f G z l with
  | none => rw [hc] at h; cases h
  | some p => obtain ⟨G', z'⟩ := p; rw [hc] at h; exact ⟨G', z', rfl, h⟩

theorem length_link (G : List Node) (i j s : Nat) : (link G i j s).length = G.length := by simp [link]

theorem wordErr_bad {l : List UInt8} {k : Nat} (h : k < l.length) (h2 : 2 < l[k]) : wordErr l = 1 := by
  unfold wordErr
  rw [if_pos]
  exact List.any_eq_true.2 ⟨l[k], List.getElem_mem h, by simpa using h2⟩
theorem wordErr_long {l : List UInt8} (h : l.any (2 < ·) = false) (h2 : 60 < l.length) : wordErr l = 4 := by
  unfold wordErr; rw [h]; simp [h2]
theorem wordErr_ok {l : List UInt8} (h : l.any (2 < ·) = false) (h2 : l.length ≤ 60) : wordErr l = 0 := by
  unfold wordErr; rw [h]; simp; omega
theorem any_take_succ {l : List UInt8} {k : Nat} (hk : k < l.length) (h : (l.take k).any (2 < ·) = false) (h2 : ¬ 2 < l[k]) : (l.take (k + 1)).any (2 < ·) = false := by
  rw [List.take_succ_eq_append_getElem hk, List.any_append, h]; simpa using h2

/-- The check of orders, order by order. -/
def pre (L : List Int) (k : Nat) : Option (Nat × Nat × Nat) := (L.take k).foldl (fun s m => if badOrder m then none else s.map (ordStep · m.toNat)) (some (1, 0, 1))

theorem pre_succ {L : List Int} {k : Nat} {m : Int} (h : L[k]? = some m) : pre L (k + 1) = if badOrder m then none else (pre L k).map (ordStep · m.toNat) := by
  unfold pre
  obtain ⟨hk, rfl⟩ := List.getElem?_eq_some_iff.1 h
  rw [List.take_succ_eq_append_getElem hk, List.foldl_append]
  rfl

theorem ordStep_bound {lv sm al m c d : Nat} (hm : m ≤ 12) (h1 : 1 ≤ lv ∧ lv ≤ c) (h2 : sm ≤ d) (h3 : 1 ≤ al ∧ al ≤ c) :
    (1 ≤ (ordStep (lv, sm, al) m).1 ∧ (ordStep (lv, sm, al) m).1 ≤ 12 * c) ∧ (ordStep (lv, sm, al) m).2.1 ≤ 12 * d + c ∧ (1 ≤ (ordStep (lv, sm, al) m).2.2 ∧ (ordStep (lv, sm, al) m).2.2 ≤ 12 * c) := by
  unfold ordStep
  by_cases h : 0 < m
  · rw [if_pos h]
    have hg : 0 < Nat.gcd lv m := Nat.gcd_pos_of_pos_right _ h
    have hd : Nat.gcd lv m ∣ lv := Nat.gcd_dvd_left _ _
    have h4 : 1 ≤ lv / Nat.gcd lv m := Nat.div_pos (Nat.le_of_dvd (by omega) hd) hg
    have h5 : lv / Nat.gcd lv m ≤ lv := Nat.div_le_self _ _
    refine ⟨⟨Nat.mul_pos h4 h, ?_⟩, ?_, ⟨Nat.mul_pos h3.1 h, ?_⟩⟩
    · calc lv / Nat.gcd lv m * m ≤ c * 12 := Nat.mul_le_mul (by omega) hm
        _ = 12 * c := Nat.mul_comm _ _
    · show sm * m + al ≤ 12 * d + c
      have : sm * m ≤ d * 12 := Nat.mul_le_mul h2 hm
      omega
    · calc al * m ≤ c * 12 := Nat.mul_le_mul h3.2 hm
        _ = 12 * c := Nat.mul_comm _ _
  · rw [if_neg h]
    exact ⟨⟨h1.1, by simp; omega⟩, by simp; omega, ⟨h3.1, by simp; omega⟩⟩

theorem not_bad {m : Int} (h : badOrder m = false) : 0 ≤ m ∧ m ≠ 1 ∧ m ≤ 12 := by
  simp [badOrder] at h
  omega

theorem pre_bound {L : List Int} : ∀ k, k ≤ 3 → k ≤ L.length → ∀ lv sm al, pre L k = some (lv, sm, al) → 1 ≤ lv ∧ lv ≤ 1728 ∧ sm ≤ 432 ∧ 1 ≤ al ∧ al ≤ 1728 := by
  have key : ∀ k, k ≤ L.length → ∀ lv sm al, pre L k = some (lv, sm, al) → (1 ≤ lv ∧ lv ≤ 12 ^ k) ∧ sm ≤ k * 12 ^ (k - 1) ∧ (1 ≤ al ∧ al ≤ 12 ^ k) := by
    intro k
    induction k with
    | zero => intro _ lv sm al h; cases h; simp
    | succ k ih =>
      intro hk lv sm al h
      obtain ⟨m, hm⟩ : ∃ m, L[k]? = some m := ⟨L[k], List.getElem?_eq_getElem (by omega)⟩
      rw [pre_succ hm] at h
      cases hb : badOrder m with
      | true => rw [hb] at h; cases h
      | false =>
        rw [hb] at h
        cases hp : pre L k with
        | none => rw [hp] at h; cases h
        | some s =>
          obtain ⟨a, b, c⟩ := s
          rw [hp] at h
          simp only [Bool.false_eq_true, if_false, Option.map_some, Option.some.injEq] at h
          obtain ⟨h1, h2, h3⟩ := ih (by omega) a b c hp
          have hm' := not_bad hb
          have := ordStep_bound (m := m.toNat) (by omega) h1 h2 h3
          rw [h] at this
          obtain ⟨t1, t2, t3⟩ := this
          simp only at t1 t2 t3
          refine ⟨⟨t1.1, by rw [Nat.pow_succ]; omega⟩, ?_, ⟨t3.1, by rw [Nat.pow_succ]; omega⟩⟩
          refine Nat.le_trans t2 ?_
          cases k with
          | zero => simp
          | succ k =>
            simp only [Nat.add_sub_cancel]
            rw [Nat.pow_succ, Nat.succ_mul (k + 1)]
            have : 12 * ((k + 1) * 12 ^ k) = (k + 1) * (12 ^ k * 12) := by rw [Nat.mul_comm 12, Nat.mul_assoc]
            omega
  intro k hk hkl lv sm al h
  obtain ⟨⟨h1, h2⟩, h3, ⟨h4, h5⟩⟩ := key k hkl lv sm al h
  obtain rfl | rfl | rfl | rfl : k = 0 ∨ k = 1 ∨ k = 2 ∨ k = 3 := by omega
  all_goals simp at h2 h3 h5; omega

theorem ordErr_pre (a b c : Int) : ordErr a b c = match pre [a, b, c] 3 with | none => 1 | some s => if s.2.2 ≤ s.2.1 then 1 else if 60 < s.1 then 4 else 0 := by
  unfold ordErr pre
  simp only [List.take, List.foldl]
  cases badOrder a <;> cases badOrder b <;> cases badOrder c <;> simp

theorem pre_bad {L : List Int} {k : Nat} {m : Int} (hL : L.length = 3) (h : L[k]? = some m) (hb : badOrder m = true) : pre L 3 = none := by
  have hk := (List.getElem?_eq_some_iff.1 h).1
  have h1 : pre L (k + 1) = none := by rw [pre_succ h, hb]; rfl
  have h2 : ∀ j, pre L (k + 1 + j) = none := by
    intro j
    induction j with
    | zero => exact h1
    | succ j ih =>
      by_cases hj : k + 1 + j < L.length
      · rw [← Nat.add_assoc, pre_succ (List.getElem?_eq_getElem hj), ih]; simp
      · unfold pre at ih ⊢
        rw [List.take_of_length_le (by omega)] at ih ⊢
        exact ih
  have := h2 (2 - k)
  rwa [show k + 1 + (2 - k) = 3 by omega] at this

theorem walk_cons {o : Ord} {fuel : Nat} {G G'' : List Node} {x y : Nat} {c : UInt8} {l : List UInt8} (h : walk o fuel G x (c :: l) = some (G'', y)) :
    ∃ G' x', step o fuel G x c.toNat = some (G', x') ∧ walk o fuel G' x' l = some (G'', y) := by
  unfold walk at h
  cases hs : step o fuel G x c.toNat with
  | none => rw [hs] at h; cases h
  | some p => obtain ⟨G', x'⟩ := p; rw [hs] at h; exact ⟨G', x', rfl, h⟩

def toOrd (a b c : Int) : Ord := ⟨a.toNat, b.toNat, c.toNat⟩

theorem ordErr_zero {a b c : Int} (h : ordErr a b c = 0) : (0 ≤ a ∧ a ≠ 1 ∧ a ≤ 12) ∧ (0 ≤ b ∧ b ≠ 1 ∧ b ≤ 12) ∧ (0 ≤ c ∧ c ≠ 1 ∧ c ≤ 12) := by
  unfold ordErr at h
  cases ha : badOrder a <;> cases hb : badOrder b <;> cases hc : badOrder c <;> simp [ha, hb, hc] at h
  exact ⟨not_bad ha, not_bad hb, not_bad hc⟩

/-- The error of some words. -/
def wordsErr : List (List UInt8) → Int
  | [] => 0
  | l :: r => if wordErr l ≠ 0 then wordErr l else wordsErr r

theorem wordErr_letters {l : List UInt8} (h : wordErr l = 0) : (∀ (k : Nat) (hk : k < l.length), l[k].toNat < 3) ∧ l.length ≤ 60 := by
  unfold wordErr at h
  by_cases h1 : l.any (2 < ·) = true
  · rw [if_pos h1] at h; cases h
  · rw [if_neg h1] at h
    by_cases h2 : 60 < l.length
    · rw [if_pos h2] at h; cases h
    · refine ⟨fun k hk => ?_, by omega⟩
      have h3 : ¬ (2 < l[k]) := fun h4 => h1 (List.any_eq_true.2 ⟨l[k], List.getElem_mem hk, by simpa using h4⟩)
      have h5 : ¬ ((2 : UInt8).toNat < l[k].toNat) := fun h => h3 (UInt8.lt_iff_toNat_lt.2 h)
      simp at h5
      omega

theorem wordsErr_drop {ws : List (List UInt8)} {k : Nat} (hk : k < ws.length) : wordsErr (ws.drop k) = if wordErr ws[k] ≠ 0 then wordErr ws[k] else wordsErr (ws.drop (k + 1)) := by
  rw [List.drop_eq_getElem_cons hk]; rfl

theorem wordsErr_zero : ∀ {ws : List (List UInt8)}, wordsErr ws = 0 → ∀ l ∈ ws, wordErr l = 0
  | [], _, l, h => by cases h
  | a :: r, hw, l, h => by
    unfold wordsErr at hw
    by_cases ha : wordErr a = 0
    · rw [if_neg (by simpa using ha)] at hw
      rcases List.mem_cons.1 h with rfl | h
      · exact ha
      · exact wordsErr_zero hw l h
    · rw [if_pos ha] at hw; exact absurd hw ha

theorem walk_append {o : Ord} {fuel : Nat} : ∀ {a b : List UInt8} {G G'' : List Node} {x y : Nat}, walk o fuel G x (a ++ b) = some (G'', y) → ∃ G' x', walk o fuel G x a = some (G', x') ∧ walk o fuel G' x' b = some (G'', y)
  | [], b, G, G'', x, y, h => ⟨G, x, rfl, h⟩
  | c :: a, b, G, G'', x, y, h => by
    obtain ⟨G1, x1, h1, h2⟩ := walk_cons h
    obtain ⟨G2, x2, h3, h4⟩ := walk_append h2
    exact ⟨G2, x2, by unfold walk; rw [h1]; exact h3, h4⟩

/-- The normal word of a word, as the graph tells it. -/
def norm (o : Ord) (fuel : Nat) (l : List UInt8) : Option (List UInt8) :=
  match walk o fuel start 0 l with
  | none => none
  | some (G, y) => (G[y]?).map (·.word)

theorem norm_some {o : Ord} {fuel : Nat} {l nf : List UInt8} (h : norm o fuel l = some nf) : ∃ G y n, walk o fuel start 0 l = some (G, y) ∧ G[y]? = some n ∧ n.word = nf := by
  unfold norm at h
  cases hw : walk o fuel start 0 l with
  | none => rw [hw] at h; cases h
  | some p =>
    obtain ⟨G, y⟩ := p
    rw [hw] at h
    cases hn : G[y]? with
    | none => simp only [hn] at h; cases h
    | some n => simp only [hn] at h; cases h; exact ⟨G, y, n, rfl, hn, rfl⟩

/-- The error of orders and words. -/
def allErr (a b c : Int) (ws : List (List UInt8)) : Int := if ordErr a b c ≠ 0 then ordErr a b c else wordsErr ws

theorem allErr_bad {a b c : Int} {ws : List (List UInt8)} (h : ordErr a b c ≠ 0) : allErr a b c ws = ordErr a b c := if_pos h
theorem allErr_ok {a b c : Int} {ws : List (List UInt8)} (h : ordErr a b c = 0) : allErr a b c ws = wordsErr ws := if_neg (by simpa using h)
theorem wordsErr_one (l : List UInt8) : wordsErr [l] = wordErr l := by
  unfold wordsErr
  by_cases h : wordErr l = 0
  · rw [if_neg (by simpa using h), h]; rfl
  · rw [if_pos h]
theorem wordsErr_two (l r : List UInt8) : wordsErr [l, r] = if wordErr l ≠ 0 then wordErr l else wordErr r := by
  show (if wordErr l ≠ 0 then wordErr l else wordsErr [r]) = _
  rw [wordsErr_one]

/-- A text that a thing may have, or the empty one. -/
def thingByte (c : UInt8) : Bool := 32 ≤ c.toNat && c.toNat ≤ 126
def isThing (l : List UInt8) : Bool := l.all thingByte && l.length ≤ 20

theorem isThing_bad {l : List UInt8} {k : Nat} (h : k < l.length) (h2 : thingByte l[k] = false) : isThing l = false := by
  unfold isThing
  rw [Bool.and_eq_false_iff]
  exact .inl (List.all_eq_false.2 ⟨l[k], List.getElem_mem h, by simp [h2]⟩)
theorem isThing_ok {l : List UInt8} (h : l.all thingByte = true) : isThing l = decide (l.length ≤ 20) := by
  unfold isThing; rw [h]; simp
theorem all_take_succ {l : List UInt8} {k : Nat} (hk : k < l.length) (h : (l.take k).all thingByte = true) (h2 : thingByte l[k] = true) : (l.take (k + 1)).all thingByte = true := by
  rw [List.take_succ_eq_append_getElem hk, List.all_append, h]; simpa using h2

/-- Two texts compared. -/
def cmpB : List UInt8 → List UInt8 → Int
  | [], [] => 0
  | [], _ :: _ => -1
  | _ :: _, [] => 1
  | a :: as1, b :: bs => if a < b then -1 else if b < a then 1 else cmpB as1 bs

/-- Two words compared: shorter and first. -/
def cmpW (a b : List UInt8) : Int := if a.length < b.length then -1 else if b.length < a.length then 1 else cmpB a b

/-- The near side between a tile and the one over its side. -/
def nearOf (a b : List UInt8) : List UInt8 := if b.length < a.length then b else a

/-- A walk from a tile along the last r letters of a word, up to the first wall. -/
def goSteps (o : Ord) (fuel : Nat) (wall : List UInt8 → Int → Bool) (su l : List UInt8) : Nat → List UInt8 → Option (List UInt8 × Nat)
  | 0, x => some (x, l.length)
  | r + 1, x =>
    if wordsErr [su, l.take (l.length - r)] ≠ 0 then none else
    match norm o fuel (su ++ l.take (l.length - r)), l[l.length - (r + 1)]? with
    | some next, some c => if wall (nearOf x next) c.toNat then some (x, l.length - (r + 1)) else goSteps o fuel wall su l r next
    | _, _ => none

theorem goSteps_succ {o : Ord} {fuel : Nat} {wall : List UInt8 → Int → Bool} {su l : List UInt8} {r : Nat} {x : List UInt8} {p : List UInt8 × Nat} (h : goSteps o fuel wall su l (r + 1) x = some p) :
    wordsErr [su, l.take (l.length - r)] = 0 ∧ ∃ next c, norm o fuel (su ++ l.take (l.length - r)) = some next ∧ l[l.length - (r + 1)]? = some c ∧
      ((wall (nearOf x next) c.toNat = true ∧ p = (x, l.length - (r + 1))) ∨ (wall (nearOf x next) c.toNat = false ∧ goSteps o fuel wall su l r next = some p)) := by
  unfold goSteps at h
  by_cases h1 : wordsErr [su, l.take (l.length - r)] = 0
  · rw [if_neg (by simpa using h1)] at h
    refine ⟨h1, ?_⟩
    cases hn : norm o fuel (su ++ l.take (l.length - r)) with
    | none => rw [hn] at h; cases h
    | some next =>
      cases hc : l[l.length - (r + 1)]? with
      | none => rw [hn, hc] at h; cases h
      | some c =>
        rw [hn, hc] at h
        simp only at h
        refine ⟨next, c, rfl, rfl, ?_⟩
        cases hw : wall (nearOf x next) c.toNat with
        | true => rw [hw] at h; simp only [if_true] at h; cases h; exact .inl ⟨rfl, rfl⟩
        | false => rw [hw] at h; simp only [Bool.false_eq_true, if_false] at h; exact .inr ⟨rfl, h⟩
  · rw [if_pos h1] at h; cases h

end Hy

/- The small functions of package grow: the divisor, the check of orders, the check of a word. -/
namespace Go.Proofs.YtfdklmpkienfhaaGreat
set_option linter.unusedSimpArgs false
set_option linter.unusedVariables false
open Go.RowKit

theorem ret_int {k : IntKind} {a b : Int} (h : a = b) : Ending.returned (.int k a) = .returned (.int k b) := by rw [h]

set_option maxHeartbeats 400000 in
theorem grow_divisor (a b : Nat) (w : World) (ha2 : a ≤ 100000) (hb2 : b ≤ 100000) :
    Calls Tryz.prog 160 #[.int .i64 a, .int .i64 b] w fun e w' => e = .returned (.int .i64 (Nat.gcd a b : Nat)) ∧ Below w.heap.size w w' := by
  go_enter Tryz.func160, Tryz.ntmps160
  go_wp2
  go_loopw [0, 1] (fun x y wr => ∃ (p q : Nat), x = .int .i64 p ∧ y = .int .i64 q ∧ Nat.gcd p q = Nat.gcd a b ∧ p ≤ 100000 ∧ q ≤ 100000 ∧ Below w.heap.size w wr) (fun _ y _ => (intOf y).toNat)
  case atStart => exact ⟨a, b, rfl, rfl, rfl, ha2, hb2, Below.refl _ _⟩
  case round =>
    obtain ⟨p, q, rfl, rfl, hg, hp, hq, hB⟩ := hrel
    have HG := Lib.hid hg; clear hg
    have HB := Lib.hid hB; clear hB
    by_cases hz : q = 0
    · subst hz
      have h1 : (((0 : Nat) : Int) != 0) = false := rfl
      go_wp2
      go_ret
      exact ⟨ret_int (by rw [← HG.out, Nat.gcd_zero_right]), HB.out⟩
    · have h1 : ((q : Int) != 0) = true := by rw [bne_iff_ne]; omega
      have h2 : ¬ ((q : Int) = 0) := by omega
      clear hz
      go_wp2
      go_quiet (fail)
      go_wp2
      go_roundw
      case rel => exact ⟨q, p % q, rfl, rfl, by rw [← HG.out, Nat.gcd_comm q, ← Nat.gcd_rec, Nat.gcd_comm], by omega, by have := Nat.mod_lt p (show 0 < q by omega); omega, below_drewN HB.out _⟩
      case measure => simp [intOf]; have := Nat.mod_lt p (show 0 < q by omega); omega


def str (l : List UInt8) : Value := .string ⟨l.toArray⟩

/-- string([]byte{c}) -/
theorem run_letter (W : World) (b n : Nat) (h : W.cell? ⟨b, 0, none⟩ = some (.int .u8 n)) :
    Sem.run Tryz.prog (convert 168 9 (.slice (some ⟨b, 0, none⟩) 1 1)) W = .ok (str [UInt8.ofNat n]) W := by
  rw [run_convert_bytes_string (e := 5) _ _ _ _ _ _ Tryz.underlying168 Tryz.underlying5 Tryz.underlying9]
  rw [run_bytesToString W _ _ _ [(n : Int)]]
  · rfl
  · exact run_loadCells_list W _ [.int .u8 n] (fun j v hj => by
      cases j with
      | zero => simp at hj; subst hj; simpa [Addr.add] using h
      | succ j => simp at hj)


/-- []byte(s) -/
theorem run_bytes (l : List UInt8) (w : World) : ∃ (cap : Nat) (c : Array Value) (fr : Nat × Nat), Sem.run Tryz.prog (convert 9 168 (.string ⟨l.toArray⟩)) w = .ok (.slice (some ⟨w.heap.size, 0, none⟩) l.length cap) (w.drew.alloc (.cells c 5 fr)) ∧
    ∀ j (h : j < l.length), c[j]? = some (.int .u8 (l[j].toNat : Int)) := by
  refine ⟨_, _, _, run_bytes_of_string w 9 168 5 ⟨l.toArray⟩ Tryz.underlying9 Tryz.underlying168 Tryz.underlying5, ?_⟩
  intro j h
  unfold bytesRow
  simp [Array.getElem?_append, h]

theorem cell_new (w : World) (c : Array Value) (t : TypeId) (fr : Nat × Nat) (k : Nat) : (w.alloc (.cells c t fr)).cell? ⟨w.heap.size, k, none⟩ = c[k]? := by
  unfold World.cell?
  have : (w.alloc (.cells c t fr)).heap[w.heap.size]? = some (.cells c t fr) := by
    show (w.heap.push _)[w.heap.size]? = _
    simp
  rw [this]
  rfl

set_option maxRecDepth 100000 in
set_option maxHeartbeats 400000 in
theorem grow_Word (l : List UInt8) (w : World) (hl : l.length ≤ 9223372036854775807) :
    Calls Tryz.prog 121 #[str l] w fun e w' => e = .returned (.int .i64 (Hy.wordErr l)) ∧ Below w.heap.size w w' := by
  obtain ⟨cap, c, fr, kb, hc⟩ := run_bytes l w
  have hcell : ∀ j (h : j < l.length), (w.alloc (.cells c 5 fr)).cell? ⟨w.heap.size, j, none⟩ = some (.int .u8 (l[j].toNat : Int)) := fun j h => (cell_new _ _ _ _ _).trans (hc j h)
  have HC := Lib.hid hc; clear hc
  have HCELL := Lib.hid hcell; clear hcell
  unfold str
  go_enter Tryz.func121, Tryz.ntmps121
  go_wp2_with fail
  go_loop [8] (fun i => ∃ k : Nat, k ≤ l.length ∧ i = .int .i64 k ∧ Hid ((l.take k).any (2 < ·) = false)) (fun i => l.length - (intOf i).toNat)
  case atStart => exact ⟨0, Nat.zero_le _, rfl, rfl⟩
  case round =>
    obtain ⟨k, hk, rfl, HK⟩ := hrel
    by_cases hlt : k < l.length
    · have hcell := HCELL.out k hlt
      by_cases h2 : 2 < l[k]
      · have g : decide ((2 : Int) < (l[k].toNat : Int)) = true := by rw [decide_eq_true_iff]; exact_mod_cast (UInt8.lt_iff_toNat_lt.1 h2)
        go_wp2_with fail
        go_ret
        exact ⟨ret_int (Hy.wordErr_bad hlt h2).symm, ((Below.refl _ _).alloc (Nat.le_refl _) _).drew⟩
      · have g : decide ((2 : Int) < (l[k].toNat : Int)) = false := by rw [decide_eq_false_iff_not]; intro h; exact h2 (UInt8.lt_iff_toNat_lt.2 (by exact_mod_cast h))
        have HK' := Lib.hid (Hy.any_take_succ hlt HK.out h2)
        clear h2
        go_wp2_with fail
        go_round
        case rel => exact ⟨k + 1, by omega, by go_num, HK'.out⟩
        case measure => simp [intOf]; omega
    · obtain rfl : k = l.length := by omega
      clear hk hlt hl
      have ha : l.any (2 < ·) = false := by have := HK.out; rwa [List.take_length] at this
      have HA := Lib.hid ha; clear ha HK
      have hd : decide ((l.length : Int) < (l.length : Int)) = false := by simp
      by_cases h60 : 60 < l.length
      · go_wp2_with fail
        go_ret
        exact ⟨ret_int (Hy.wordErr_long HA.out h60).symm, ((Below.refl _ _).alloc (Nat.le_refl _) _).drew⟩
      · go_wp2_with fail
        go_ret
        exact ⟨ret_int (Hy.wordErr_ok HA.out (by omega)).symm, ((Below.refl _ _).alloc (Nat.le_refl _) _).drew⟩

theorem wrap64_small {x : Int} (h0 : 0 ≤ x) (h1 : x ≤ 4611686018427387904) : wrap64 x = x := by unfold wrap64; omega

def ordersV (a b c : Int) : Value := .agg #[.int .i64 a, .int .i64 b, .int .i64 c]

theorem run_index3 (a b c m : Int) (k : Nat) (h : [a, b, c][k]? = some m) (w : World) : (Instr.index 147 (.agg #[.int .i64 a, .int .i64 b, .int .i64 c]) (.int .i64 k)).run Tryz.prog w = .ok (.int .i64 m) w := by
  obtain rfl | rfl | rfl : k = 0 ∨ k = 1 ∨ k = 2 := by have := (List.getElem?_eq_some_iff.1 h).1; simp at this; omega
  all_goals
    simp at h
    subst h
    kernel_rfl

set_option maxRecDepth 100000 in
set_option maxHeartbeats 1000000 in
theorem grow_Check (a b c : Int) (w : World) :
    Calls Tryz.prog 125 #[ordersV a b c] w fun e w' => e = .returned (.int .i64 (Hy.ordErr a b c)) ∧ Below w.heap.size w w' := by
  unfold ordersV
  go_enter Tryz.func125, Tryz.ntmps125
  go_wp2_with fail
  go_loopw [4, 5, 6, 17] (fun lv sm al i wr => ∃ (k l s al' : Nat), k ≤ 3 ∧ i = .int .i64 k ∧ lv = .int .i64 l ∧ sm = .int .i64 s ∧ al = .int .i64 al' ∧ Hid (Hy.pre [a, b, c] k = some (l, s, al')) ∧ Hid (Below w.heap.size w wr)) (fun _ _ _ i _ => 3 - (intOf i).toNat)
  case atStart => exact ⟨0, 1, 0, 1, by omega, rfl, rfl, rfl, rfl, rfl, (((Below.refl _ _).alloc (Nat.le_refl _) _).alloc (by simp) _)⟩
  case round =>
    obtain ⟨k, l, s, al, hk, rfl, rfl, rfl, rfl, HP, HB⟩ := hrel
    have hb := Hy.pre_bound k hk (by simpa using hk) l s al HP.out
    obtain ⟨hl1, hl2, hs2, ha1, ha2⟩ := hb
    by_cases hk3 : k = 3
    · subst hk3
      have hfin := Hy.ordErr_pre a b c
      rw [HP.out] at hfin
      simp only at hfin
      by_cases h1 : al ≤ s
      · rw [if_pos h1] at hfin
        have HF := Lib.hid hfin; clear hfin
        go_wp2_with fail
        go_ret
        exact ⟨ret_int HF.out.symm, HB.out⟩
      · rw [if_neg h1] at hfin
        have h1' : s < al := by omega
        by_cases h2 : 60 < l
        · rw [if_pos h2] at hfin
          have HF := Lib.hid hfin; clear hfin
          go_wp2_with fail
          go_ret
          exact ⟨ret_int HF.out.symm, HB.out⟩
        · rw [if_neg h2] at hfin
          have h2' : l ≤ 60 := by omega
          have HF := Lib.hid hfin; clear hfin
          go_wp2_with fail
          go_ret
          exact ⟨ret_int HF.out.symm, HB.out⟩
    · have hlt : k < 3 := by omega
      obtain ⟨m, hm⟩ : ∃ m, [a, b, c][k]? = some m := ⟨[a, b, c][k], List.getElem?_eq_getElem (by simpa using hlt)⟩
      have hix := run_index3 a b c m k hm
      have hsucc := Hy.pre_succ hm
      rw [HP.out] at hsucc
      cases hbad : Hy.badOrder m with
      | true =>
        have hfin := Hy.ordErr_pre a b c
        rw [Hy.pre_bad rfl hm hbad] at hfin
        simp only at hfin
        have HF := Lib.hid hfin; clear hfin hsucc
        have HM := Lib.hid hm; clear hm
        simp [Hy.badOrder] at hbad
        by_cases g1 : m < 0
        · clear hbad
          go_wp2_with fail
          go_ret
          exact ⟨ret_int HF.out.symm, HB.out⟩
        · by_cases g2 : m = 1
          · have g3 : (m == 1) = true := by rw [beq_iff_eq]; exact g2
            clear hbad g2
            have g1' : 0 ≤ m := by omega
            go_wp2_with fail
            go_ret
            exact ⟨ret_int HF.out.symm, HB.out⟩
          · have g3 : (m == 1) = false := by rw [beq_eq_false_iff_ne]; exact g2
            have g4 : 12 < m := by omega
            have g1' : 0 ≤ m := by omega
            clear hbad g2
            go_wp2_with fail
            go_ret
            exact ⟨ret_int HF.out.symm, HB.out⟩
      | false =>
        rw [hbad] at hsucc
        obtain ⟨g1, g2, g4⟩ := Hy.not_bad hbad
        have g3 : (m == 1) = false := by rw [beq_eq_false_iff_ne]; exact g2
        have HM := Lib.hid hm; clear hm
        clear hbad g2
        obtain ⟨n, rfl⟩ := Int.eq_ofNat_of_zero_le g1
        simp only [Bool.false_eq_true, if_false, Option.map_some, Int.toNat_natCast] at hsucc
        by_cases hn : 0 < n
        · have hg : 0 < Nat.gcd l n := Nat.gcd_pos_of_pos_right _ hn
          have hg2 : Nat.gcd l n ≤ l := Nat.le_of_dvd (by omega) (Nat.gcd_dvd_left _ _)
          have hq : l / Nat.gcd l n ≤ l := Nat.div_le_self _ _
          have hq2 : l / Nat.gcd l n * n ≤ 1728 * 12 := Nat.mul_le_mul (by omega) (by omega)
          have hs3 : s * n ≤ 432 * 12 := Nat.mul_le_mul (by omega) (by omega)
          have ha3 : al * n ≤ 1728 * 12 := Nat.mul_le_mul (by omega) (by omega)
          have HS := Lib.hid hsucc; clear hsucc
          clear g1
          go_wp2_with fail
          refine (grow_divisor l n _ (by omega) (by omega)).mono ?_
          rintro e w2 ⟨rfl, hB2⟩
          have HB2 := Lib.hid hB2; clear hB2
          go_wp2_with fail
          go_roundw
          case rel =>
            refine ⟨k + 1, l / Nat.gcd l n * n, s * n + al, al * n, by omega, by go_num, ?_, by go_num, by go_num, ?_, ?_⟩
            · have e1 : (l : Int) / (Nat.gcd l n : Int) = ((l / Nat.gcd l n : Nat) : Int) := (Int.natCast_ediv _ _).symm
              rw [e1, wrap64_small (x := ((l / Nat.gcd l n : Nat) : Int)) (Int.natCast_nonneg _) (by omega), ← Int.natCast_mul, wrap64_small (x := ((l / Nat.gcd l n * n : Nat) : Int)) (Int.natCast_nonneg _) (by omega)]
            · have := HS.out
              unfold Hy.ordStep at this
              rw [if_pos hn] at this
              exact this
            · exact HB.out.trans (HB2.out.mono HB.out.size)
          case measure => simp [intOf]; omega
        · obtain rfl : n = 0 := by omega
          have HS := Lib.hid hsucc; clear hsucc
          clear g1 hn g4 g3
          have g3 : (((0 : Nat) : Int) == 1) = false := rfl
          have g5 : decide ((0 : Int) < ((0 : Nat) : Int)) = false := rfl
          go_wp2_with fail
          go_roundw
          case rel =>
            refine ⟨k + 1, l, s, al, by omega, by go_num, rfl, rfl, rfl, ?_, HB⟩
            have := HS.out
            unfold Hy.ordStep at this
            rw [if_neg (by omega)] at this
            exact this
          case measure => simp [intOf]; omega
end Go.Proofs.YtfdklmpkienfhaaGreat

/- The graph of tiles of package grow in memory; its functions do what the plain functions of Pure say. -/
namespace Go.Proofs.YtfdklmpkienfhaaGreat
set_option linter.unusedSimpArgs false
set_option linter.unusedVariables false
open Go.RowKit

def ptr (bs : Nat → Nat) : Option Nat → Value
  | none => .pointer none
  | some i => .pointer (some ⟨bs i, 0, none⟩)


def nodeCells (bs : Nat → Nat) (n : Hy.Node) : Array Value :=
  #[str n.word, ptr bs (n.to 0), ptr bs (n.to 1), ptr bs (n.to 2), .bool (n.down 0), .bool (n.down 1), .bool (n.down 2)]

def planeCells (o : Hy.Ord) (b : Nat) : Array Value :=
  #[.int .i64 0, .int .i64 o.m01, .int .i64 o.m02, .int .i64 o.m01, .int .i64 0, .int .i64 o.m12, .int .i64 o.m02, .int .i64 o.m12, .int .i64 0, .pointer (some ⟨b, 0, none⟩)]

/-- Only blocks of B may have changed. -/
structure Only (B : Nat → Prop) (w w' : World) : Prop where
  os : w'.os = w.os
  tape : w'.tape = w.tape
  output : w'.output = w.output
  size : w.heap.size ≤ w'.heap.size
  block : ∀ k, ¬ B k → w'.heap[k]? = w.heap[k]?

/-- All new blocks are of B. -/
def Free (B : Nat → Prop) (w : World) : Prop := ∀ k, w.heap.size ≤ k → B k

theorem Free.grow {B : Nat → Prop} {w w' : World} (h : Free B w) (hs : w.heap.size ≤ w'.heap.size) : Free B w' := fun k hk => h k (Nat.le_trans hs hk)

theorem Only.refl (B : Nat → Prop) (w : World) : Only B w w := ⟨rfl, rfl, rfl, Nat.le_refl _, fun _ _ => rfl⟩
theorem Only.trans {B : Nat → Prop} {a b c : World} (h : Only B a b) (k : Only B b c) : Only B a c :=
  ⟨k.os.trans h.os, k.tape.trans h.tape, k.output.trans h.output, Nat.le_trans h.size k.size, fun i hi => (k.block i hi).trans (h.block i hi)⟩
theorem Only.mono {B B' : Nat → Prop} {w w' : World} (h : Only B w w') (hB : ∀ k, B k → B' k) : Only B' w w' := ⟨h.os, h.tape, h.output, h.size, fun k hk => h.block k (fun hb => hk (hB k hb))⟩
theorem Only.drew {B : Nat → Prop} {a w : World} (h : Only B a w) : Only B a w.drew := ⟨h.os, h.tape, h.output, h.size, h.block⟩
theorem Only.drewN {B : Nat → Prop} {a w : World} (h : Only B a w) (n : Nat) : Only B a (w.drewN n) := ⟨h.os, h.tape, h.output, h.size, h.block⟩
theorem Only.alloc {B : Nat → Prop} {a w : World} (h : Only B a w) (hB : Free B a) (o : Obj) : Only B a (w.alloc o) :=
  h.trans ⟨rfl, rfl, rfl, by simp, fun k hk => by
    rcases Nat.lt_or_ge k w.heap.size with hlt | hge
    · exact Below.heap_alloc _ _ _ hlt
    · exact absurd (hB k (Nat.le_trans h.size hge)) hk⟩
theorem Only.setCell {B : Nat → Prop} {a w : World} (h : Only B a w) {p : Addr} (hp : B p.block) (u : Value) : Only B a (w.setCell p u) :=
  h.trans ⟨rfl, rfl, rfl, by simp [World.setCell], fun k hk => Below.heap_setCell _ _ _ _ (fun e => hk (e ▸ hp))⟩
theorem Only.below {B : Nat → Prop} {w w' : World} (h : Only B w w') {N : Nat} (hN : ∀ k, B k → N ≤ k) : Below N w w' :=
  ⟨h.os, h.tape, h.output, h.size, fun k hk => h.block k (fun hb => by have := hN k hb; omega)⟩

structure GRep (w : World) (o : Hy.Ord) (B : Nat → Prop) (pb : Nat) (bs : Nat → Nat) (G : List Hy.Node) : Prop where
  plane : w.heap[pb]? = some (.cells (planeCells o (bs 0)) 230 (0, 0))
  node : ∀ (i : Nat) (n : Hy.Node), G[i]? = some n → w.heap[bs i]? = some (.cells (nodeCells bs n) 234 (0, 0))
  inj : ∀ i j, i < G.length → j < G.length → bs i = bs j → i = j
  ne : ∀ i, i < G.length → bs i ≠ pb
  lo : ∀ i, i < G.length → B (bs i)
  closed : ∀ (i : Nat) (n : Hy.Node) (s j : Nat), G[i]? = some n → n.to s = some j → j < G.length

theorem cell_of_heap {w : World} {b : Nat} {c : Array Value} {t : TypeId} {fr : Nat × Nat} (h : w.heap[b]? = some (.cells c t fr)) (k : Nat) : w.cell? ⟨b, k, none⟩ = c[k]? := by
  unfold World.cell?
  rw [h]
  rfl
theorem free_of_heap {w : World} {b : Nat} {c : Array Value} {t : TypeId} (h : w.heap[b]? = some (.cells c t (0, 0))) (k : Nat) : w.frozen? ⟨b, k, none⟩ = false := by
  unfold World.frozen?
  rw [h]
  simp

theorem GRep.cWord {w : World} {o : Hy.Ord} {B : Nat → Prop} {pb : Nat} {bs : Nat → Nat} {G : List Hy.Node} (h : GRep w o B pb bs G) {i : Nat} {n : Hy.Node} (hi : G[i]? = some n) :
    w.cell? ⟨bs i, 0, none⟩ = some (str n.word) := by rw [cell_of_heap (h.node i n hi)]; rfl
theorem GRep.cTo {w : World} {o : Hy.Ord} {B : Nat → Prop} {pb : Nat} {bs : Nat → Nat} {G : List Hy.Node} (h : GRep w o B pb bs G) {i : Nat} {n : Hy.Node} (hi : G[i]? = some n) {s : Nat} (hs : s < 3) :
    w.cell? ⟨bs i, 1 + s, none⟩ = some (ptr bs (n.to s)) := by
  rw [cell_of_heap (h.node i n hi)]
  obtain rfl | rfl | rfl : s = 0 ∨ s = 1 ∨ s = 2 := by omega
  all_goals rfl
theorem GRep.cDown {w : World} {o : Hy.Ord} {B : Nat → Prop} {pb : Nat} {bs : Nat → Nat} {G : List Hy.Node} (h : GRep w o B pb bs G) {i : Nat} {n : Hy.Node} (hi : G[i]? = some n) {s : Nat} (hs : s < 3) :
    w.cell? ⟨bs i, 4 + s, none⟩ = some (.bool (n.down s)) := by
  rw [cell_of_heap (h.node i n hi)]
  obtain rfl | rfl | rfl : s = 0 ∨ s = 1 ∨ s = 2 := by omega
  all_goals rfl

set_option maxHeartbeats 400000 in
theorem grow_lowest {w : World} {o : Hy.Ord} {B : Nat → Prop} {pb : Nat} {bs : Nat → Nat} {G : List Hy.Node} (h : GRep w o B pb bs G) (k t i j : Nat) (hk : k ≤ 100) (hi : i < 3) (hj : j < 3) (r : Option Nat) (hr : Hy.lowest G k t i j = some r) :
    Calls Tryz.prog 159 #[.pointer (some ⟨bs t, 0, none⟩), .int .i64 i, .int .i64 j, .int .i64 k] w fun e w' => e = .returned (.tuple #[ptr bs r, .bool r.isSome]) ∧ w = w' := by
  go_enter Tryz.func159, Tryz.ntmps159
  go_wp2
  go_loop [0, 1, 2, 11] (fun a b c d => ∃ (m t i j : Nat), m ≤ k ∧ i < 3 ∧ j < 3 ∧ a = .pointer (some ⟨bs t, 0, none⟩) ∧ b = .int .i64 i ∧ c = .int .i64 j ∧ d = .int .i64 ((k - m : Nat) : Int) ∧ Hy.lowest G m t i j = some r) (fun _ _ _ d => k - (intOf d).toNat)
  case atStart => exact ⟨k, t, i, j, Nat.le_refl _, hi, hj, rfl, rfl, rfl, by simp, hr⟩
  case round =>
    obtain ⟨m, t, i, j, hm, hi, hj, rfl, rfl, rfl, rfl, hr⟩ := hrel
    have H := Lib.hid hr; clear hr
    cases m with
    | zero =>
      go_wp2
      go_ret2
      have hr := H.out
      unfold Hy.lowest at hr
      cases hr
      exact ⟨rfl, rfl⟩
    | succ m =>
      have hr := H.out
      unfold Hy.lowest at hr
      cases hg : G[t]? with
      | none => rw [hg] at hr; cases hr
      | some n =>
        rw [hg] at hr
        simp only at hr
        have ct := h.cTo hg hi
        have cd := h.cDown hg hi
        have HG := Lib.hid hg; clear hg
        cases hd : n.down i with
        | false =>
          rw [hd] at cd hr
          have H' := Lib.hid hr; clear hr H
          clear hd
          go_wp2
          go_ret2
          have hr := H'.out
          simp at hr
          subst hr
          exact ⟨rfl, rfl⟩
        | true =>
          rw [hd] at cd hr
          simp only [if_true] at hr
          cases ht : n.to i with
          | none => rw [ht] at hr; cases hr
          | some t' =>
            rw [ht] at hr ct
            unfold ptr at ct
            simp only at hr ct
            have H' := Lib.hid hr; clear hr H
            clear hd ht
            go_wp2
            go_round
            case rel => exact ⟨m, t', j, i, by omega, hj, hi, rfl, rfl, rfl, by go_num, H'.out⟩
            case measure => simp [intOf]; omega

theorem GRep.drew {w : World} {o : Hy.Ord} {B : Nat → Prop} {pb : Nat} {bs : Nat → Nat} {G : List Hy.Node} (h : GRep w o B pb bs G) : GRep w.drew o B pb bs G :=
  ⟨h.plane, h.node, h.inj, h.ne, h.lo, h.closed⟩

theorem length_modify {G : List Hy.Node} {i : Nat} {f : Hy.Node → Hy.Node} : (G.modify i f).length = G.length := by simp

/-- One node's cell is written. -/
theorem GRep.write {w : World} {o : Hy.Ord} {B : Nat → Prop} {pb : Nat} {bs : Nat → Nat} {G : List Hy.Node} (h : GRep w o B pb bs G) {i : Nat} {n : Hy.Node} (hi : G[i]? = some n) (f : Hy.Node → Hy.Node) (k : Nat) (v : Value)
    (hf : nodeCells bs (f n) = (nodeCells bs n).setIfInBounds k v) (hc : ∀ s j, (f n).to s = some j → j < G.length) : GRep (w.setCell ⟨bs i, k, none⟩ v) o B pb bs (G.modify i f) := by
  have hlt : i < G.length := (List.getElem?_eq_some_iff.1 hi).1
  refine ⟨?_, ?_, ?_, ?_, ?_, ?_⟩
  · rw [heap_setCell_other _ _ _ _ (by simpa using (h.ne i hlt).symm)]; exact h.plane
  · intro a m hm
    rw [List.getElem?_modify] at hm
    by_cases e : i = a
    · subst e
      rw [hi] at hm
      simp at hm
      subst hm
      rw [heap_setCell_same _ _ _ _ _ _ (h.node i n hi), hf]
    · simp [e] at hm
      have ha : a < G.length := (List.getElem?_eq_some_iff.1 hm).1
      rw [heap_setCell_other _ _ _ _ (by simp; intro e'; exact e (h.inj i a hlt ha e'.symm))]
      exact h.node a m hm
  · intro a b ha hb; rw [length_modify] at ha hb; exact h.inj a b ha hb
  · intro a ha; rw [length_modify] at ha; exact h.ne a ha
  · intro a ha; rw [length_modify] at ha; exact h.lo a ha
  · intro a m s j hm hj
    rw [length_modify]
    rw [List.getElem?_modify] at hm
    by_cases e : i = a
    · subst e
      rw [hi] at hm
      simp at hm
      subst hm
      exact hc s j hj
    · simp [e] at hm
      exact h.closed a m s j hm hj

theorem GRep.setTo {w : World} {o : Hy.Ord} {B : Nat → Prop} {pb : Nat} {bs : Nat → Nat} {G : List Hy.Node} (h : GRep w o B pb bs G) {i : Nat} {n : Hy.Node} (hi : G[i]? = some n) {s j : Nat} (hs : s < 3) (hj : j < G.length) :
    GRep (w.setCell ⟨bs i, 1 + s, none⟩ (.pointer (some ⟨bs j, 0, none⟩))) o B pb bs (G.modify i (Hy.setTo s j)) := by
  refine h.write hi _ _ _ ?_ ?_
  · obtain rfl | rfl | rfl : s = 0 ∨ s = 1 ∨ s = 2 := by omega
    all_goals simp [nodeCells, Hy.setTo, ptr]
  · intro a b hb
    simp only [Hy.setTo] at hb
    split at hb
    · cases hb; exact hj
    · exact h.closed i n a b hi hb

theorem GRep.setDown {w : World} {o : Hy.Ord} {B : Nat → Prop} {pb : Nat} {bs : Nat → Nat} {G : List Hy.Node} (h : GRep w o B pb bs G) {i : Nat} {n : Hy.Node} (hi : G[i]? = some n) {s : Nat} (hs : s < 3) :
    GRep (w.setCell ⟨bs i, 4 + s, none⟩ (.bool true)) o B pb bs (G.modify i (Hy.setDown s)) := by
  refine h.write hi _ _ _ ?_ ?_
  · obtain rfl | rfl | rfl : s = 0 ∨ s = 1 ∨ s = 2 := by omega
    all_goals simp [nodeCells, Hy.setDown]
  · intro a b hb
    exact h.closed i n a b hi hb

theorem GRep.setWord {w : World} {o : Hy.Ord} {B : Nat → Prop} {pb : Nat} {bs : Nat → Nat} {G : List Hy.Node} (h : GRep w o B pb bs G) {i : Nat} {n : Hy.Node} (hi : G[i]? = some n) (l : List UInt8) :
    GRep (w.setCell ⟨bs i, 0, none⟩ (str l)) o B pb bs (G.modify i (Hy.setWord l)) := by
  refine h.write hi _ _ _ ?_ ?_
  · simp [nodeCells, Hy.setWord]
  · intro a b hb
    exact h.closed i n a b hi hb

theorem link_eq (G : List Hy.Node) (i j s : Nat) : Hy.link G i j s = ((G.modify i (Hy.setTo s j)).modify j (Hy.setTo s i)).modify j (Hy.setDown s) := by
  unfold Hy.link
  apply List.ext_getElem?
  intro k
  simp only [List.getElem?_modify]
  by_cases e : j = k
  · simp [e, Function.comp_def]
  · simp [e]

theorem modify_comm (G : List Hy.Node) (i j : Nat) (f g : Hy.Node → Hy.Node) (hij : i ≠ j) : (G.modify i f).modify j g = (G.modify j g).modify i f := by
  apply List.ext_getElem?
  intro k
  simp only [List.getElem?_modify]
  by_cases e : j = k
  · by_cases e' : i = k
    · omega
    · simp [e, e']
  · simp [e]

theorem modify_at {G : List Hy.Node} {i j : Nat} {f : Hy.Node → Hy.Node} {n : Hy.Node} (h : G[j]? = some n) (hij : i ≠ j) : (G.modify i f)[j]? = some n := by
  rw [List.getElem?_modify]; simp [hij, h]
theorem modify_same {G : List Hy.Node} {i : Nat} {f : Hy.Node → Hy.Node} {n : Hy.Node} (h : G[i]? = some n) : (G.modify i f)[i]? = some (f n) := by
  rw [List.getElem?_modify]; simp [h]

theorem GRep.link {w : World} {o : Hy.Ord} {B : Nat → Prop} {pb : Nat} {bs : Nat → Nat} {G : List Hy.Node} (h : GRep w o B pb bs G) {i j s : Nat} (hs : s < 3) {ni nj : Hy.Node} (hi : G[i]? = some ni) (hj : G[j]? = some nj) (hij : i ≠ j) :
    GRep (((w.setCell ⟨bs i, 1 + s, none⟩ (.pointer (some ⟨bs j, 0, none⟩))).setCell ⟨bs j, 1 + s, none⟩ (.pointer (some ⟨bs i, 0, none⟩))).setCell ⟨bs j, 4 + s, none⟩ (.bool true)) o B pb bs (Hy.link G i j s) := by
  rw [link_eq]
  have li := (List.getElem?_eq_some_iff.1 hi).1
  have lj := (List.getElem?_eq_some_iff.1 hj).1
  have h1 := h.setTo hi hs lj
  have h2 := h1.setTo (modify_at hj hij) hs (j := i) (by simpa using li)
  exact h2.setDown (modify_same (modify_at hj hij)) hs

theorem GRep.link' {w : World} {o : Hy.Ord} {B : Nat → Prop} {pb : Nat} {bs : Nat → Nat} {G : List Hy.Node} (h : GRep w o B pb bs G) {i j s : Nat} (hs : s < 3) {ni nj : Hy.Node} (hi : G[i]? = some ni) (hj : G[j]? = some nj) (hij : i ≠ j) :
    GRep (((w.setCell ⟨bs j, 1 + s, none⟩ (.pointer (some ⟨bs i, 0, none⟩))).setCell ⟨bs i, 1 + s, none⟩ (.pointer (some ⟨bs j, 0, none⟩))).setCell ⟨bs j, 4 + s, none⟩ (.bool true)) o B pb bs (Hy.link G i j s) := by
  rw [link_eq, modify_comm G i j _ _ hij]
  have li := (List.getElem?_eq_some_iff.1 hi).1
  have lj := (List.getElem?_eq_some_iff.1 hj).1
  have h1 := h.setTo hj hs li
  have h2 := h1.setTo (modify_at hi (Ne.symm hij)) hs (j := j) (by simpa using lj)
  exact h2.setDown (modify_at (modify_same hj) hij) hs

set_option maxHeartbeats 400000 in
theorem grow_link {w : World} {o : Hy.Ord} {B : Nat → Prop} {pb : Nat} {bs : Nat → Nat} {G : List Hy.Node} (h : GRep w o B pb bs G) (i j s : Nat) (hs : s < 3) (ni nj : Hy.Node) (hi : G[i]? = some ni) (hj : G[j]? = some nj) (hij : i ≠ j) :
    Calls Tryz.prog 158 #[.pointer (some ⟨bs i, 0, none⟩), .pointer (some ⟨bs j, 0, none⟩), .int .i64 s] w fun e w' => e = .returned (.tuple #[]) ∧ GRep w' o B pb bs (Hy.link G i j s) ∧ Only B w w' := by
  have li := (List.getElem?_eq_some_iff.1 hi).1
  have lj := (List.getElem?_eq_some_iff.1 hj).1
  have hne : bs i ≠ bs j := fun e => hij (h.inj i j li lj e)
  have ci := h.cTo hi hs
  have cj := h.cTo hj hs
  have cd := h.cDown hj hs
  have fi := free_of_heap (h.node i ni hi) (1 + s)
  have fj := free_of_heap (h.node j nj hj) (1 + s)
  have fd := free_of_heap (h.node j nj hj) (4 + s)
  have k1 : ∀ x, (w.setCell ⟨bs i, 1 + s, none⟩ x).cell? ⟨bs j, 1 + s, none⟩ = some (ptr bs (nj.to s)) := fun x => (World.cell?_setCell_other _ _ _ _ (by simp [hne])).trans cj
  have k2 : ∀ x, (w.setCell ⟨bs j, 1 + s, none⟩ x).cell? ⟨bs i, 1 + s, none⟩ = some (ptr bs (ni.to s)) := fun x => (World.cell?_setCell_other _ _ _ _ (by simp [Ne.symm hne])).trans ci
  have k3 : ∀ x y, ((w.setCell ⟨bs i, 1 + s, none⟩ x).setCell ⟨bs j, 1 + s, none⟩ y).cell? ⟨bs j, 4 + s, none⟩ = some (.bool (nj.down s)) := fun x y =>
    (World.cell?_setCell_other _ _ _ _ (by simp)).trans ((World.cell?_setCell_other _ _ _ _ (by simp [hne])).trans cd)
  have k4 : ∀ x y, ((w.setCell ⟨bs j, 1 + s, none⟩ x).setCell ⟨bs i, 1 + s, none⟩ y).cell? ⟨bs j, 4 + s, none⟩ = some (.bool (nj.down s)) := fun x y =>
    (World.cell?_setCell_other _ _ _ _ (by simp [hne])).trans ((World.cell?_setCell_other _ _ _ _ (by simp)).trans cd)
  have R1 := h.link hs hi hj hij
  have R2 := h.link' hs hi hj hij
  have B1 := h.lo i li
  have B2 := h.lo j lj
  clear hi hj hne
  go_enter Tryz.func158, Tryz.ntmps158
  go_wp2
  go_region
  all_goals go_wp2
  all_goals go_end0
  all_goals exact ⟨rfl, R1.drew, ((((Only.refl _ _).setCell B1 _).setCell B2 _).setCell B2 _).drew⟩
end Go.Proofs.YtfdklmpkienfhaaGreat

/- The step of package grow: the recursion over the graph. -/
namespace Go.Proofs.YtfdklmpkienfhaaGreat
set_option linter.unusedSimpArgs false
set_option linter.unusedVariables false
open Go.RowKit

structure Small (o : Hy.Ord) : Prop where
  a : o.m01 ≤ 12
  b : o.m12 ≤ 12
  c : o.m02 ≤ 12

def StepPost (o : Hy.Ord) (B : Nat → Prop) (pb : Nat) (bs : Nat → Nat) (G G' : List Hy.Node) (y : Nat) (w : World) (e : Ending) (w' : World) : Prop :=
  ∃ bs' : Nat → Nat, e = .returned (.pointer (some ⟨bs' y, 0, none⟩)) ∧ GRep w' o B pb bs' G' ∧ (∀ i, i < G.length → bs' i = bs i) ∧ Only B w w' ∧ G.length ≤ G'.length ∧ y < G'.length

theorem grow_step_known {w : World} {o : Hy.Ord} {B : Nat → Prop} {pb : Nat} {bs : Nat → Nat} {G : List Hy.Node} (h : GRep w o B pb bs G) {x s y : Nat} (hs : s < 3) {n : Hy.Node} (hx : G[x]? = some n) (hy : n.to s = some y) :
    Calls Tryz.prog 124 #[.pointer (some ⟨pb, 0, none⟩), .pointer (some ⟨bs x, 0, none⟩), .int .i64 s] w (StepPost o B pb bs G G y w) := by
  have ct := h.cTo hx hs
  rw [hy] at ct
  unfold ptr at ct
  simp only at ct
  have hyl := h.closed x n s y hx hy
  have hP : StepPost o B pb bs G G y w (.returned (.pointer (some ⟨bs y, 0, none⟩))) w := ⟨bs, rfl, h, fun _ _ => rfl, Only.refl _ _, Nat.le_refl _, hyl⟩
  have HX := Lib.hid hx; clear hx
  have HY := Lib.hid hy; clear hy
  go_enter Tryz.func124, Tryz.ntmps124
  go_wp2_with fail
  go_ret
  exact hP

theorem GRep.lt {w : World} {o : Hy.Ord} {B : Nat → Prop} {pb : Nat} {bs : Nat → Nat} {G : List Hy.Node} (h : GRep w o B pb bs G) {i : Nat} (hi : i < G.length) : bs i < w.heap.size :=
  (Array.getElem?_eq_some_iff.1 (h.node i G[i] (List.getElem?_eq_getElem hi))).1

theorem heap_alloc_lt (w : World) (ob : Obj) {k : Nat} (h : k < w.heap.size) : (w.alloc ob).heap[k]? = w.heap[k]? := Below.heap_alloc w ob k h

theorem ptr_congr {bs bs' : Nat → Nat} {N : Nat} (h : ∀ i, i < N → bs' i = bs i) (x : Option Nat) (hx : ∀ j, x = some j → j < N) : ptr bs' x = ptr bs x := by
  cases x with
  | none => rfl
  | some j => simp only [ptr]; rw [h j (hx j rfl)]

theorem alloc_heap_new (w : World) (ob : Obj) : (w.alloc ob).heap[w.heap.size]? = some ob := by
  show (w.heap.push ob)[w.heap.size]? = some ob
  simp

theorem sprout_rep {w : World} {o : Hy.Ord} {B : Nat → Prop} {pb : Nat} {bs : Nat → Nat} {G : List Hy.Node} (h : GRep w o B pb bs G) (hB : Free B w) (h0 : 0 < G.length) (ob : Obj) (l : List UInt8) :
    ∃ bs2 : Nat → Nat, GRep (((w.alloc ob).alloc (.cells #[.string ⟨l.toArray⟩, .pointer none, .pointer none, .pointer none, .bool false, .bool false, .bool false] 234)).drew) o B pb bs2 (G ++ [Hy.fresh l]) ∧
      (∀ i, i < G.length → bs2 i = bs i) ∧ bs2 G.length = w.heap.size + 1 := by
  refine ⟨fun i => if i = G.length then w.heap.size + 1 else bs i, GRep.drew ⟨?_, ?_, ?_, ?_, ?_, ?_⟩, fun i hi => if_neg (by omega), if_pos rfl⟩
  · have hp : pb < w.heap.size := (Array.getElem?_eq_some_iff.1 h.plane).1
    rw [heap_alloc_lt _ _ (by simp; omega), heap_alloc_lt _ _ hp, if_neg (by omega)]
    exact h.plane
  · intro i n hi
    by_cases e : i = G.length
    · subst e
      simp at hi
      subst hi
      simp only [if_true]
      have := alloc_heap_new (w.alloc ob) (.cells #[.string ⟨l.toArray⟩, .pointer none, .pointer none, .pointer none, .bool false, .bool false, .bool false] 234)
      rw [World.size_alloc] at this
      exact this
    · have hlt : i < G.length := by
        have := (List.getElem?_eq_some_iff.1 hi).1
        simp at this
        omega
      rw [List.getElem?_append_left hlt] at hi
      have hb := h.lt hlt
      simp only [if_neg e]
      rw [heap_alloc_lt _ _ (by simp; omega), heap_alloc_lt _ _ hb, h.node i n hi]
      have hcl := h.closed i n
      unfold nodeCells
      have hag : ∀ j, j < G.length → (fun i => if i = G.length then w.heap.size + 1 else bs i) j = bs j := fun j hj => if_neg (by omega)
      rw [ptr_congr hag (n.to 0) (fun j e => hcl 0 j hi e), ptr_congr hag (n.to 1) (fun j e => hcl 1 j hi e), ptr_congr hag (n.to 2) (fun j e => hcl 2 j hi e)]
  · intro i j hi hj e
    simp at hi hj
    have li : i ≠ G.length → bs i < w.heap.size := fun _ => h.lt (by omega)
    have lj : j ≠ G.length → bs j < w.heap.size := fun _ => h.lt (by omega)
    by_cases e1 : i = G.length
    · by_cases e2 : j = G.length
      · omega
      · have := lj e2; simp [e1, e2] at e; omega
    · by_cases e2 : j = G.length
      · have := li e1; simp [e1, e2] at e; omega
      · simp [e1, e2] at e; exact h.inj i j (by omega) (by omega) e
  · intro i hi
    simp at hi
    have hp : pb < w.heap.size := (Array.getElem?_eq_some_iff.1 h.plane).1
    by_cases e1 : i = G.length
    · simp [e1]; omega
    · simp [e1]; exact h.ne i (by omega)
  · intro i hi
    simp at hi
    by_cases e1 : i = G.length
    · simp [e1]; exact hB _ (by omega)
    · simp [e1]; exact h.lo i (by omega)
  · intro i n s j hi hj
    simp
    by_cases e : i = G.length
    · subst e
      simp at hi
      subst hi
      simp [Hy.fresh] at hj
    · have hlt : i < G.length := by
        have := (List.getElem?_eq_some_iff.1 hi).1
        simp at this
        omega
      rw [List.getElem?_append_left hlt] at hi
      have := h.closed i n s j hi hj
      omega

theorem GRep.cOrd {w : World} {o : Hy.Ord} {B : Nat → Prop} {pb : Nat} {bs : Nat → Nat} {G : List Hy.Node} (h : GRep w o B pb bs G) {s t : Nat} (hs : s < 3) (ht : t < 3) :
    w.cell? ⟨pb, s * 3 + t, none⟩ = some (.int .i64 (if s = t then 0 else o.m s t : Nat)) := by
  rw [cell_of_heap h.plane]
  obtain rfl | rfl | rfl : s = 0 ∨ s = 1 ∨ s = 2 := by omega
  all_goals
    obtain rfl | rfl | rfl : t = 0 ∨ t = 1 ∨ t = 2 := by omega
    all_goals rfl

theorem bytes_add (a b : List UInt8) : ((⟨a.toArray⟩ : ByteArray) ++ ⟨b.toArray⟩) = ⟨(a ++ b).toArray⟩ := ByteArray.mk_append_mk a b

theorem GRep.alloc {w : World} {o : Hy.Ord} {B : Nat → Prop} {pb : Nat} {bs : Nat → Nat} {G : List Hy.Node} (h : GRep w o B pb bs G) (ob : Obj) : GRep (w.alloc ob) o B pb bs G := by
  refine ⟨?_, ?_, h.inj, h.ne, h.lo, h.closed⟩
  · rw [heap_alloc_lt _ _ (Array.getElem?_eq_some_iff.1 h.plane).1]; exact h.plane
  · intro i n hi
    rw [heap_alloc_lt _ _ (h.lt (List.getElem?_eq_some_iff.1 hi).1)]; exact h.node i n hi

theorem ByteArray_toList (l : List UInt8) : (⟨l.toArray⟩ : ByteArray).toList = l := by
  simp

theorem less_eq : ∀ (a b : List UInt8), Op.bytesLess a b = Hy.less a b
  | _, [] => by cases ‹List UInt8› <;> rfl
  | [], _ :: _ => rfl
  | a :: x, b :: y => by simp only [Op.bytesLess, Hy.less, less_eq x y]

/-- What the recursion may use. -/
def StepIH (o : Hy.Ord) (B : Nat → Prop) (pb : Nat) (f : List Hy.Node → Nat → Nat → Option (List Hy.Node × Nat)) : Prop :=
  ∀ (w : World) (bs : Nat → Nat) (G : List Hy.Node) (x s : Nat) (G' : List Hy.Node) (y : Nat), GRep w o B pb bs G → Free B w → s < 3 → f G x s = some (G', y) →
    Calls Tryz.prog 124 #[.pointer (some ⟨pb, 0, none⟩), .pointer (some ⟨bs x, 0, none⟩), .int .i64 s] w (StepPost o B pb bs G G' y w)

set_option maxRecDepth 100000 in
set_option maxHeartbeats 2000000 in
theorem grow_step_new {w : World} {o : Hy.Ord} (ho : Small o) {B : Nat → Prop} {pb : Nat} {bs : Nat → Nat} {G : List Hy.Node} (h : GRep w o B pb bs G) (hB : Free B w) {x s : Nat} (hs : s < 3) {n : Hy.Node} (hx : G[x]? = some n) (hy : n.to s = none) (hl : n.word.length < 1000)
    {f : List Hy.Node → Nat → Nat → Option (List Hy.Node × Nat)} (ih : StepIH o B pb f) {Gc : List Hy.Node} (hc : Hy.corners o f x s G.length 3 (Hy.sprout G n x s) = some Gc) :
    Calls Tryz.prog 124 #[.pointer (some ⟨pb, 0, none⟩), .pointer (some ⟨bs x, 0, none⟩), .int .i64 s] w (StepPost o B pb bs G Gc G.length w) := by
  have ct := h.cTo hx hs
  rw [hy] at ct
  unfold ptr at ct
  simp only at ct
  have cw := h.cWord hx
  have hxl : x < G.length := (List.getElem?_eq_some_iff.1 hx).1
  have HX := Lib.hid hx; clear hx
  have HY := Lib.hid hy; clear hy
  have HC := Lib.hid hc; clear hc
  have IH := Lib.hid ih; clear ih
  unfold str at cw
  have hlt : bs x < w.heap.size := World.block_lt_of_cell? _ _ cw
  have cwa : ∀ ob, (w.alloc ob).cell? ⟨bs x, 0, none⟩ = some (.string ⟨n.word.toArray⟩) := fun ob => (World.cell?_alloc_lt w ob _ hlt).trans cw
  have kl := run_letter (w.alloc (.cells #[.int .u8 s] 5)).drew w.heap.size s (by simp)
  unfold str at kl
  go_enter Tryz.func124, Tryz.ntmps124
  go_wp2_with fail
  go_region
  all_goals go_wp2_with fail
  clear kl cwa ct cw
  rw [show (#[UInt8.ofNat s] : Array UInt8) = (Hy.letter s).toArray from rfl, bytes_add]
  obtain ⟨bs2, h2, e2, e3⟩ := sprout_rep h hB (by omega) (.cells #[.int .u8 s] 5) (n.word ++ Hy.letter s)
  rw [← e3, ← e2 x hxl]
  refine (grow_link h2 x G.length s hs n (Hy.fresh (n.word ++ Hy.letter s)) (by rw [List.getElem?_append_left hxl]; exact HX.out) (by simp) (by omega)).mono ?_
  rintro e w1 ⟨rfl, h3, hB3⟩
  have hB4 : Only B w w1 := (((Only.refl B w).alloc hB _).alloc hB _).drew.trans hB3
  have E2 := Lib.hid e2; clear e2
  have E3 := Lib.hid e3; clear e3
  have HB4 := Lib.hid hB4; clear hB4 hB3
  have h3 : GRep w1 o B pb bs2 (Hy.sprout G n x s) := h3
  have HH3 := Lib.hid h3; clear h3
  have HH := Lib.hid h; clear h h2
  go_wp2_with fail
  go_loopw [43] (fun i wr => ∃ (r : Nat) (bs' : Nat → Nat) (Gr : List Hy.Node), r ≤ 3 ∧ i = .int .i64 ((3 - r : Nat) : Int) ∧ Hid (GRep wr o B pb bs' Gr) ∧ Hid (Hy.corners o f x s G.length r Gr = some Gc) ∧ Hid (∀ i, i < G.length + 1 → bs' i = bs2 i) ∧ Hid (Only B w wr) ∧ G.length + 1 ≤ Gr.length) (fun i _ => 3 - (intOf i).toNat)
  case atStart => exact ⟨3, bs2, Hy.sprout G n x s, by omega, rfl, HH3.out, HC.out, fun _ _ => rfl, HB4.out, by simp [Hy.sprout, Hy.length_link]⟩
  case round =>
    obtain ⟨r, bs', Gr, hr3, rfl, HR, HCr, HA, HBr, hlen⟩ := hrel
    cases r with
    | zero =>
      go_wp2_with fail
      go_ret
      have hc0 := HCr.out
      unfold Hy.corners at hc0
      cases hc0
      refine ⟨bs', ?_, HR.out, fun i hi => ?_, HBr.out, by omega, by omega⟩
      · rw [HA.out G.length (by omega)]; rfl
      · rw [HA.out i (by omega), E2.out i hi]
    | succ r =>
      obtain ⟨G1, hc1, hc2⟩ := Hy.corners_succ HCr.out
      have HC2 := Lib.hid hc2; clear hc2
      obtain ⟨t, ht, ht3⟩ : ∃ t, t = 3 - (r + 1) ∧ t < 3 := ⟨_, rfl, by omega⟩
      rw [← ht] at hc1 ⊢
      have htr : 3 - r = t + 1 := by omega
      have HT := Lib.hid htr; clear htr
      have HT' := Lib.hid ht; clear ht
      have co := HR.out.cOrd hs ht3
      have ex : bs2 x = bs' x := (HA.out x (by omega)).symm
      have ey : bs2 G.length = bs' G.length := (HA.out _ (by omega)).symm
      have EX := Lib.hid ex; clear ex
      have EY := Lib.hid ey; clear ey
      rcases Hy.corner_cases hc1 with ⟨h1, h2⟩ | ⟨h1, h2, h4⟩ | ⟨m, h1, h2, h4, h5⟩ | ⟨m, v, G', z, nz, ny, h1, h2, h4, h5, h6, h7, h8, h9, h10⟩
      · subst h2
        have g1 : ((t : Int) == (s : Int)) = true := by rw [beq_iff_eq]; omega
        clear h1 hc1
        go_wp2_with fail
        go_roundw
        case rel => exact ⟨r, bs', G1, by omega, by rw [HT.out]; rfl, HR, HC2, HA, HBr, hlen⟩
        case measure => simp [intOf]; omega
      · subst h4
        have g1 : ((t : Int) == (s : Int)) = false := by rw [beq_eq_false_iff_ne]; omega
        replace co : wr.cell? ⟨pb, s * 3 + t, none⟩ = some (.int .i64 0) := by rw [if_neg (Ne.symm h1), h2] at co; exact co
        clear h1 hc1 h2
        go_wp2_with fail
        go_roundw
        case rel => exact ⟨r, bs', G1, by omega, by rw [HT.out]; rfl, HR, HC2, HA, HBr, hlen⟩
        case measure => simp [intOf]; omega
      · subst h5
        have hm : m + 1 ≤ 12 := by have := ho.a; have := ho.b; have := ho.c; rw [← h2]; unfold Hy.Ord.m; split; assumption; split <;> assumption
        have g1 : ((t : Int) == (s : Int)) = false := by rw [beq_eq_false_iff_ne]; omega
        replace co : wr.cell? ⟨pb, s * 3 + t, none⟩ = some (.int .i64 ((m : Int) + 1)) := by rw [if_neg (Ne.symm h1), h2] at co; exact co
        have g2 : ((m : Int) + 1 == 0) = false := by rw [beq_eq_false_iff_ne]; omega
        have H4 := Lib.hid h4; clear h4
        clear h1 hc1 h2
        have hcall := grow_lowest HR.out m x t s (by omega) ht3 hs none H4.out
        rw [← EX.out] at hcall
        have HCALL := Lib.hid hcall; clear hcall
        go_wp2_with fail
        refine HCALL.out.mono ?_
        rintro e w2 ⟨rfl, rfl⟩
        clear HCALL
        go_wp2_with fail
        go_roundw
        case rel => exact ⟨r, bs', G1, by omega, by rw [HT.out]; rfl, HR, HC2, HA, HBr, hlen⟩
        case measure => simp [intOf]; omega
      · have hm : m + 1 ≤ 12 := by have := ho.a; have := ho.b; have := ho.c; rw [← h2]; unfold Hy.Ord.m; split; assumption; split <;> assumption
        have g1 : ((t : Int) == (s : Int)) = false := by rw [beq_eq_false_iff_ne]; omega
        replace co : wr.cell? ⟨pb, s * 3 + t, none⟩ = some (.int .i64 ((m : Int) + 1)) := by rw [if_neg (Ne.symm h1), h2] at co; exact co
        have g2 : ((m : Int) + 1 == 0) = false := by rw [beq_eq_false_iff_ne]; omega
        have hcall := grow_lowest HR.out m x t s (by omega) ht3 hs (some v) h4
        rw [← EX.out] at hcall
        have HCALL := Lib.hid hcall; clear hcall
        have H6 := Lib.hid h6; clear h6
        have H7 := Lib.hid h7; clear h7
        have H8 := Lib.hid h8; clear h8
        have H10 := Lib.hid h10; clear h10
        clear h1 hc1 h2 h4
        have hpar : ((((m : Int) + 1) % 2 == 0) = true ∧ Hy.climb f m Gr v s t = some (G', z)) ∨ ((((m : Int) + 1) % 2 == 0) = false ∧ Hy.climb f m Gr v t s = some (G', z)) := by
          rcases (show (m + 1) % 2 = 0 ∨ (m + 1) % 2 = 1 by omega) with par | par
          · rw [if_pos par, if_pos par] at h5
            exact .inl ⟨by rw [beq_iff_eq]; omega, h5⟩
          · rw [if_neg (by omega), if_neg (by omega)] at h5
            exact .inr ⟨by rw [beq_eq_false_iff_ne]; omega, h5⟩
        clear h5
        rcases hpar with ⟨g3, h5⟩ | ⟨g3, h5⟩
        all_goals
          have H5 := Lib.hid h5; clear h5
          go_wp2_with fail
          refine HCALL.out.mono ?_
          rintro e w2 ⟨rfl, rfl⟩
          clear HCALL
          go_wp2_with fail
          obtain ⟨wo, hwo⟩ : ∃ wo : World, wo = wr := ⟨_, rfl⟩
          have HWO := Lib.hid hwo; clear hwo
          have HL := Lib.hid (show m ≤ m from Nat.le_refl m)
          go_loopw [12, 13, 80] (fun zv lv cv wq => ∃ (k : Nat) (bq : Nat → Nat) (Gq : List Hy.Node) (zz ll ll' : Nat), k ≤ m ∧ ll < 3 ∧ ll' < 3 ∧ zv = .pointer (some ⟨bq zz, 0, none⟩) ∧ lv = .int .i64 ll ∧ cv = .int .i64 ((m - k : Nat) : Int) ∧ ll + ll' = s + t ∧
            Hid (GRep wq o B pb bq Gq) ∧ Hid (Hy.climb f k Gq zz ll ll' = some (G', z)) ∧ Hid (∀ i, i < G.length + 1 → bq i = bs2 i) ∧ Hid (Only B w wq) ∧ G.length + 1 ≤ Gq.length) (fun _ _ cv _ => m - (intOf cv).toNat)
          case atStart => exact ⟨m, bs', Gr, v, _, _, Nat.le_refl _, by assumption, by assumption, rfl, rfl, by simp, by omega, HR, H5.out, HA, HBr, hlen⟩
          case round =>
            obtain ⟨k, bq, Gq, zz, ll, ll', hk, hll, hll', rfl, rfl, rfl, hsum, HRq, Hcl, HAq, HBq, hlenq⟩ := hrel
            cases k with
            | zero =>
              have hc0 := Hcl.out
              unfold Hy.climb at hc0
              cases hc0
              have hzl : z < G'.length := by
                have := (List.getElem?_eq_some_iff.1 H7.out).1
                rwa [Hy.length_link] at this
              have hyl : G.length < G'.length := by omega
              have eyq : bs2 G.length = bq G.length := (HAq.out _ (by omega)).symm
              have hcall := grow_link HRq.out z G.length t ht3 G'[z] G'[G.length] (List.getElem?_eq_getElem hzl) (List.getElem?_eq_getElem hyl) H6.out
              rw [← eyq] at hcall
              have HCALL := Lib.hid hcall; clear hcall
              have EYQ := Lib.hid eyq; clear eyq
              go_wp2_with fail
              refine HCALL.out.mono ?_
              rintro e w3 ⟨rfl, h3, hB3⟩
              clear HCALL
              have hcw := h3.cWord H7.out
              have hcy := h3.cWord H8.out
              rw [← EYQ.out] at hcy
              have hfy := free_of_heap (h3.node _ _ H8.out) 0
              rw [← EYQ.out] at hfy
              have hzb : bq z < w3.heap.size := h3.lt (by rw [Hy.length_link]; exact hzl)
              have hyb : bs2 G.length < w3.heap.size := by rw [EYQ.out]; exact h3.lt (by rw [Hy.length_link]; exact hyl)
              have hcwa : ∀ ob, (w3.alloc ob).cell? ⟨bq z, 0, none⟩ = some (str nz.word) := fun ob => (World.cell?_alloc_lt w3 ob _ hzb).trans hcw
              have hcya : ∀ ob, (w3.alloc ob).cell? ⟨bs2 G.length, 0, none⟩ = some (str ny.word) := fun ob => (World.cell?_alloc_lt w3 ob _ hyb).trans hcy
              have hfya : ∀ ob, (w3.alloc ob).frozen? ⟨bs2 G.length, 0, none⟩ = false := fun ob => (World.frozen?_alloc_old w3 ob _ (Nat.ne_of_lt hyb)).trans hfy
              have kl := run_letter (w3.alloc (.cells #[.int .u8 t] 5)).drew w3.heap.size t (by simp)
              have h4 := (h3.alloc (.cells #[.int .u8 t] 5)).drew
              have hB4 : Only B w (w3.alloc (.cells #[.int .u8 t] 5)).drew := ((HBq.out.trans hB3).alloc hB _).drew
              have hword : (⟨nz.word.toArray⟩ ++ ⟨#[UInt8.ofNat t]⟩ : ByteArray) = ⟨(nz.word ++ Hy.letter t).toArray⟩ := bytes_add _ _
              have h5 := ((h3.setWord H8.out (nz.word ++ Hy.letter t)).alloc (.cells #[.int .u8 t] 5)).drew
              have hB5 := (((HBq.out.trans hB3).setCell (p := ⟨bs2 G.length, 0, none⟩) (by rw [EYQ.out]; exact h3.lo _ (by rw [Hy.length_link]; exact hyl)) (str (nz.word ++ Hy.letter t))).alloc hB (.cells #[.int .u8 t] 5)).drew
              rw [← EYQ.out] at h5
              unfold str at h5 hB5
              rw [← hword] at h5 hB5
              have HW := Lib.hid hword; clear hword
              have H3 := Lib.hid h3; clear h3
              have HH4 := Lib.hid h4; clear h4
              have HH5 := Lib.hid h5; clear h5
              have HB3 := Lib.hid hB3; clear hB3
              have HB4' := Lib.hid hB4; clear hB4
              have HB5 := Lib.hid hB5; clear hB5
              unfold str at hcw hcy hcwa hcya kl
              go_wp2_with fail
              go_region
              all_goals go_wp2_with fail
              · have hlt : Op.bytesLess (⟨nz.word.toArray⟩ ++ ⟨#[UInt8.ofNat t]⟩ : ByteArray).toList ny.word = true := by assumption
                have h10 := H10.out
                rw [HW.out, ByteArray_toList, less_eq] at hlt
                rw [if_pos hlt] at h10
                go_roundw
                case rel => exact ⟨r, bq, G1, by omega, by rw [HT.out]; rfl, by rw [h10]; exact HH5.out, HC2, HAq, HB5.out, by rw [h10]; simp [Hy.length_link]; omega⟩
                case measure => simp [intOf]; omega
              · have hlt : Op.bytesLess (⟨nz.word.toArray⟩ ++ ⟨#[UInt8.ofNat t]⟩ : ByteArray).toList ny.word = false := by assumption
                have h10 := H10.out
                rw [HW.out, ByteArray_toList, less_eq] at hlt
                rw [if_neg (by rw [hlt]; simp)] at h10
                go_roundw
                case rel => exact ⟨r, bq, G1, by omega, by rw [HT.out]; rfl, by rw [h10]; exact HH4.out, HC2, HAq, HB4'.out, by rw [h10]; simp [Hy.length_link]; omega⟩
                case measure => simp [intOf]; omega
            | succ k =>
              obtain ⟨Gn, zn, hf, hcn⟩ := Hy.climb_succ Hcl.out
              have hcall := IH.out wr bq Gq zz ll Gn zn HRq.out (hB.grow HBq.out.size) hll hf
              have HCALL := Lib.hid hcall; clear hcall hf
              have HCN := Lib.hid hcn; clear hcn
              go_wp2_with fail
              refine HCALL.out.mono ?_
              rintro e w3 ⟨bn, rfl, h3, hag, hB3, hlen3, hzn⟩
              clear HCALL
              have H3 := Lib.hid h3; clear h3
              have HAG := Lib.hid hag; clear hag
              have HB3 := Lib.hid hB3; clear hB3
              go_wp2_with fail
              go_roundw
              case rel => exact ⟨k, bn, Gn, zn, ll', ll, by omega, hll', hll, rfl, by go_num, by go_num, by omega, H3, HCN, fun i hi => (HAG.out i (by omega)).trans (HAq.out i hi), HBq.out.trans HB3.out, by omega⟩
              case measure => simp [intOf]; omega

/-- The step of the graph in memory. -/
theorem grow_step {o : Hy.Ord} (ho : Small o) {B : Nat → Prop} {pb : Nat} : ∀ fuel : Nat, StepIH o B pb (Hy.step o fuel)
  | 0 => fun w bs G x s G' y h hB hs hf => by cases hf
  | fuel + 1 => fun w bs G x s G' y h hB hs hf => by
    unfold Hy.step at hf
    cases hx : G[x]? with
    | none => rw [hx] at hf; cases hf
    | some n =>
      rw [hx] at hf
      simp only at hf
      cases hy : n.to s with
      | some y' =>
        rw [hy] at hf
        cases hf
        exact grow_step_known h hs hx hy
      | none =>
        rw [hy] at hf
        simp only at hf
        by_cases hl : 1000 ≤ n.word.length
        · rw [if_pos hl] at hf; cases hf
        · rw [if_neg hl] at hf
          cases hc : Hy.corners o (Hy.step o fuel) x s G.length 3 (Hy.sprout G n x s) with
          | none => rw [hc] at hf; cases hf
          | some Gc =>
            rw [hc] at hf
            cases hf
            exact grow_step_new ho h hB hs hx hy (by omega) (grow_step ho fuel) hc
end Go.Proofs.YtfdklmpkienfhaaGreat

/- The plane of package grow: made, and walked along a word. -/
namespace Go.Proofs.YtfdklmpkienfhaaGreat
set_option linter.unusedSimpArgs false
set_option linter.unusedVariables false
open Go.RowKit

set_option maxRecDepth 100000 in
set_option maxHeartbeats 1000000 in
theorem grow_table (a b c : Int) (w : World) :
    Calls Tryz.prog 157 #[ordersV a b c] w fun e w' => e = .returned (.agg #[.int .i64 0, .int .i64 a, .int .i64 c, .int .i64 a, .int .i64 0, .int .i64 b, .int .i64 c, .int .i64 b, .int .i64 0]) ∧ Below w.heap.size w w' := by
  unfold ordersV
  go_enter Tryz.func157, Tryz.ntmps157
  go_wp2_with fail
  exact bodyPost_ret (v := .agg #[.int .i64 0, .int .i64 a, .int .i64 c, .int .i64 a, .int .i64 0, .int .i64 b, .int .i64 c, .int .i64 b, .int .i64 0]) (by simp [results, Tryz.results157, go_sem]) rfl ⟨rfl, ((Below.refl _ _).alloc (Nat.le_refl _) _).alloc (by simp) _⟩

def NewPost (o : Hy.Ord) (w : World) (e : Ending) (w' : World) : Prop :=
  ∃ (pb : Nat) (bs : Nat → Nat), e = .returned (.pointer (some ⟨pb, 0, none⟩)) ∧ GRep w' o (fun k => w.heap.size ≤ k) pb bs Hy.start ∧ w.heap.size ≤ pb ∧ Below w.heap.size w w'

set_option maxRecDepth 100000 in
set_option maxHeartbeats 1000000 in
theorem grow_New (o : Hy.Ord) (w : World) :
    Calls Tryz.prog 123 #[ordersV o.m01 o.m12 o.m02] w (NewPost o w) := by
  go_enter Tryz.func123, Tryz.ntmps123
  unfold ordersV
  go_wp2_with fail
  refine (grow_table o.m01 o.m12 o.m02 _).mono ?_
  rintro e w1 ⟨rfl, hB⟩
  have HB := Lib.hid hB; clear hB
  go_wp2_with fail
  go_ret
  refine ⟨w1.heap.size + 1, fun _ => w1.heap.size, rfl, ?_, ?_, ?_⟩
  · refine ⟨?_, ?_, ?_, ?_, ?_, ?_⟩
    · have := alloc_heap_new (w1.alloc (.cells (nodeCells (fun _ => w1.heap.size) (Hy.fresh [])) 234)) (.cells (planeCells o w1.heap.size) 230)
      rw [World.size_alloc] at this
      exact this
    · intro i n hi
      have h0 : i = 0 := by
        have := (List.getElem?_eq_some_iff.1 hi).1
        simpa [Hy.start] using this
      subst h0
      cases hi
      have := alloc_heap_new w1 (.cells (nodeCells (fun _ => w1.heap.size) (Hy.fresh [])) 234)
      exact (heap_alloc_lt _ _ (by simp)).trans this
    · intro i j hi hj _
      simp [Hy.start] at hi hj
      omega
    · intro i hi
      omega
    · intro i hi
      have := HB.out.size
      simp at this
      show w.heap.size ≤ w1.heap.size
      omega
    · intro i n s j hi hj
      have h0 : i = 0 := by
        have := (List.getElem?_eq_some_iff.1 hi).1
        simpa [Hy.start] using this
      subst h0
      cases hi
      cases hj
  · have := HB.out.size
    simp at this
    omega
  · have hs := HB.out.size
    simp at hs
    exact (((((Below.refl _ _).alloc (Nat.le_refl _) _).trans (HB.out.mono (by simp))).alloc (by omega) _).alloc (by simp; omega) _)

theorem GRep.sub {w : World} {o : Hy.Ord} {B B' : Nat → Prop} {pb : Nat} {bs : Nat → Nat} {G : List Hy.Node} (h : GRep w o B pb bs G) (hB : ∀ i, i < G.length → B' (bs i)) : GRep w o B' pb bs G :=
  ⟨h.plane, h.node, h.inj, h.ne, hB, h.closed⟩

end Go.Proofs.YtfdklmpkienfhaaGreat
