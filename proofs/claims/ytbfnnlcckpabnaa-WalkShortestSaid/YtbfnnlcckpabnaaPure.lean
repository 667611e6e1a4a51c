/- Plain Lean, no program: the tiles of three orders as a graph that grows, and the small checks, as functions. -/
namespace Hy
set_option linter.unusedSimpArgs false
set_option linter.unusedVariables false

/-- A tile: its word, its neighbours as far as they are known, which sides lead down. -/
structure Node where
  word : List UInt8
  to : Nat → Option Nat
  down : Nat → Bool

/-- The orders 01, 12, 02. -/
structure Ord where
  m01 : Nat
  m12 : Nat
  m02 : Nat
  deriving DecidableEq

def Ord.m (o : Ord) (i j : Nat) : Nat := if i + j = 1 then o.m01 else if i + j = 2 then o.m02 else o.m12

def setTo (s j : Nat) (n : Node) : Node := { n with to := fun k => if k = s then some j else n.to k }
def setDown (s : Nat) (n : Node) : Node := { n with down := fun k => if k = s then true else n.down k }
def setWord (w : List UInt8) (n : Node) : Node := { n with word := w }
def fresh (w : List UInt8) : Node := { word := w, to := fun _ => none, down := fun _ => false }

def link (G : List Node) (near far s : Nat) : List Node := (G.modify near (setTo s far)).modify far (fun n => setDown s (setTo s near n))

/-- So many steps down in turns: none: not known; some none: a step does not lead down. -/
def lowest (G : List Node) : Nat → Nat → Nat → Nat → Option (Option Nat)
  | 0, t, _, _ => some (some t)
  | k + 1, t, i, j =>
    match G[t]? with
    | none => none
    | some n => if n.down i then (match n.to i with | none => none | some t' => lowest G k t' j i) else some none

def climb (f : List Node → Nat → Nat → Option (List Node × Nat)) : Nat → List Node → Nat → Nat → Nat → Option (List Node × Nat)
  | 0, G, z, _, _ => some (G, z)
  | k + 1, G, z, l, l' => match f G z l with | none => none | some (G', z') => climb f k G' z' l' l

/-- The order of texts. -/
def less : List UInt8 → List UInt8 → Bool
  | _, [] => false
  | [], _ :: _ => true
  | a :: x, b :: y => a < b || (a == b && less x y)

def letter (s : Nat) : List UInt8 := [UInt8.ofNat s]

/-- One of the corners at the new tile y over the side s of x. -/
def corner (o : Ord) (f : List Node → Nat → Nat → Option (List Node × Nat)) (x s y : Nat) (G : List Node) (t : Nat) : Option (List Node) :=
  if t = s ∨ o.m s t = 0 then some G else
  match lowest G (o.m s t - 1) x t s with
  | none => none
  | some none => some G
  | some (some v) =>
    match climb f (o.m s t - 1) G v (if o.m s t % 2 = 0 then s else t) (if o.m s t % 2 = 0 then t else s) with
    | none => none
    | some (G', z) =>
      if z = y then none else
      match (link G' z y t)[z]?, (link G' z y t)[y]? with
      | some nz, some ny => if 1000 ≤ nz.word.length then none else some (if less (nz.word ++ letter t) ny.word then (link G' z y t).modify y (setWord (nz.word ++ letter t)) else link G' z y t)
      | _, _ => none

/-- The corners from 3 - r on. -/
def corners (o : Ord) (f : List Node → Nat → Nat → Option (List Node × Nat)) (x s y : Nat) : Nat → List Node → Option (List Node)
  | 0, G => some G
  | r + 1, G => match corner o f x s y G (3 - (r + 1)) with | none => none | some G' => corners o f x s y r G'

/-- The graph with the new tile over the side s of x. -/
def sprout (G : List Node) (n : Node) (x s : Nat) : List Node := link (G ++ [fresh (n.word ++ letter s)]) x G.length s

def step (o : Ord) : Nat → List Node → Nat → Nat → Option (List Node × Nat)
  | 0, _, _, _ => none
  | fuel + 1, G, x, s =>
    match G[x]? with
    | none => none
    | some n =>
      match n.to s with
      | some y => some (G, y)
      | none => if 1000 ≤ n.word.length then none else match corners o (step o fuel) x s G.length 3 (sprout G n x s) with | none => none | some G' => some (G', G.length)

def walk (o : Ord) (fuel : Nat) : List Node → Nat → List UInt8 → Option (List Node × Nat)
  | G, x, [] => some (G, x)
  | G, x, c :: w => match step o fuel G x c.toNat with | none => none | some (G', x') => walk o fuel G' x' w

def start : List Node := [fresh []]

/-- The error of a word. -/
def wordErr (w : List UInt8) : Int := if w.any (2 < ·) then 1 else if 60 < w.length then 4 else 0

/-- The error of orders. -/
def badOrder (m : Int) : Bool := m < 0 || m == 1 || 12 < m
def ordStep (s : Nat × Nat × Nat) (m : Nat) : Nat × Nat × Nat := if 0 < m then (s.1 / Nat.gcd s.1 m * m, s.2.1 * m + s.2.2, s.2.2 * m) else s
def ordErr (a b c : Int) : Int :=
  if badOrder a || badOrder b || badOrder c then 1
  else
    let s := ordStep (ordStep (ordStep (1, 0, 1) a.toNat) b.toNat) c.toNat
    if s.2.2 ≤ s.2.1 then 1 else if 60 < s.1 then 4 else 0

/-- What a corner comes to, case by case. -/
theorem corner_cases {o : Ord} {f : List Node → Nat → Nat → Option (List Node × Nat)} {x s y t : Nat} {G G1 : List Node} (hc : corner o f x s y G t = some G1) :
    (t = s ∧ G1 = G) ∨ (t ≠ s ∧ o.m s t = 0 ∧ G1 = G) ∨ (∃ m, t ≠ s ∧ o.m s t = m + 1 ∧ lowest G m x t s = some none ∧ G1 = G) ∨
    (∃ m v G' z nz ny, t ≠ s ∧ o.m s t = m + 1 ∧ lowest G m x t s = some (some v) ∧ climb f m G v (if (m + 1) % 2 = 0 then s else t) (if (m + 1) % 2 = 0 then t else s) = some (G', z) ∧ z ≠ y ∧
      (link G' z y t)[z]? = some nz ∧ (link G' z y t)[y]? = some ny ∧ nz.word.length < 1000 ∧
      G1 = if less (nz.word ++ letter t) ny.word then (link G' z y t).modify y (setWord (nz.word ++ letter t)) else link G' z y t) := by
  unfold corner at hc
  by_cases h1 : t = s
  · rw [if_pos (.inl h1)] at hc
    exact .inl ⟨h1, by cases hc; rfl⟩
  by_cases h2 : o.m s t = 0
  · rw [if_pos (.inr h2)] at hc
    exact .inr (.inl ⟨h1, h2, by cases hc; rfl⟩)
  rw [if_neg (by rintro (h | h); exact h1 h; exact h2 h)] at hc
  obtain ⟨m, hm⟩ : ∃ m, o.m s t = m + 1 := ⟨o.m s t - 1, by omega⟩
  rw [hm, Nat.add_sub_cancel] at hc
  cases hl : lowest G m x t s with
  | none => rw [hl] at hc; cases hc
  | some r =>
    rw [hl] at hc
    cases r with
    | none => exact .inr (.inr (.inl ⟨m, h1, hm, hl, by cases hc; rfl⟩))
    | some v =>
      simp only at hc
      cases hcl : climb f m G v (if (m + 1) % 2 = 0 then s else t) (if (m + 1) % 2 = 0 then t else s) with
      | none => rw [hcl] at hc; cases hc
      | some p =>
        obtain ⟨G', z⟩ := p
        rw [hcl] at hc
        simp only at hc
        by_cases hz : z = y
        · rw [if_pos hz] at hc; cases hc
        rw [if_neg hz] at hc
        cases hnz : (link G' z y t)[z]? with
        | none => rw [hnz] at hc; cases hc
        | some nz =>
          cases hny : (link G' z y t)[y]? with
          | none => rw [hnz, hny] at hc; cases hc
          | some ny =>
            rw [hnz, hny] at hc
            simp only at hc
            by_cases hlen : 1000 ≤ nz.word.length
            · rw [if_pos hlen] at hc; cases hc
            · rw [if_neg hlen] at hc
              exact .inr (.inr (.inr ⟨m, v, G', z, nz, ny, h1, hm, hl, hcl, hz, hnz, hny, by omega, by cases hc; rfl⟩))

theorem corners_succ {o : Ord} {f : List Node → Nat → Nat → Option (List Node × Nat)} {x s y r : Nat} {G Gc : List Node} (h : corners o f x s y (r + 1) G = some Gc) :
    ∃ G1, corner o f x s y G (3 - (r + 1)) = some G1 ∧ corners o f x s y r G1 = some Gc := by
  unfold corners at h
  cases hc : corner o f x s y G (3 - (r + 1)) with
  | none => rw [hc] at h; cases h
  | some G1 => rw [hc] at h; exact ⟨G1, rfl, h⟩

theorem climb_succ {f : List Node → Nat → Nat → Option (List Node × Nat)} {k z l l' z'' : Nat} {G G'' : List Node} (h : climb f (k + 1) G z l l' = some (G'', z'')) :
    ∃ G' z', f G z l = some (G', z') ∧ climb f k G' z' l' l = some (G'', z'') := by
  unfold climb at h
  cases hc : f G z l with
  | none => rw [hc] at h; cases h
  | some p => obtain ⟨G', z'⟩ := p; rw [hc] at h; exact ⟨G', z', rfl, h⟩

theorem length_link (G : List Node) (i j s : Nat) : (link G i j s).length = G.length := by simp [link]

theorem wordErr_bad {l : List UInt8} {k : Nat} (h : k < l.length) (h2 : 2 < l[k]) : wordErr l = 1 := by
  unfold wordErr
  rw [if_pos]
  exact List.any_eq_true.2 ⟨l[k], List.getElem_mem h, by simpa using h2⟩
theorem wordErr_long {l : List UInt8} (h : l.any (2 < ·) = false) (h2 : 60 < l.length) : wordErr l = 4 := by
  unfold wordErr; rw [h]; simp [h2]
theorem wordErr_ok {l : List UInt8} (h : l.any (2 < ·) = false) (h2 : l.length ≤ 60) : wordErr l = 0 := by
  unfold wordErr; rw [h]; simp; omega
theorem any_take_succ {l : List UInt8} {k : Nat} (hk : k < l.length) (h : (l.take k).any (2 < ·) = false) (h2 : ¬ 2 < l[k]) : (l.take (k + 1)).any (2 < ·) = false := by
  rw [List.take_succ_eq_append_getElem hk, List.any_append, h]; simpa using h2

/-- The check of orders, order by order. -/
def pre (L : List Int) (k : Nat) : Option (Nat × Nat × Nat) := (L.take k).foldl (fun s m => if badOrder m then none else s.map (ordStep · m.toNat)) (some (1, 0, 1))

theorem pre_succ {L : List Int} {k : Nat} {m : Int} (h : L[k]? = some m) : pre L (k + 1) = if badOrder m then none else (pre L k).map (ordStep · m.toNat) := by
  unfold pre
  obtain ⟨hk, rfl⟩ := List.getElem?_eq_some_iff.1 h
  rw [List.take_succ_eq_append_getElem hk, List.foldl_append]
  rfl

theorem ordStep_bound {lv sm al m c d : Nat} (hm : m ≤ 12) (h1 : 1 ≤ lv ∧ lv ≤ c) (h2 : sm ≤ d) (h3 : 1 ≤ al ∧ al ≤ c) :
    (1 ≤ (ordStep (lv, sm, al) m).1 ∧ (ordStep (lv, sm, al) m).1 ≤ 12 * c) ∧ (ordStep (lv, sm, al) m).2.1 ≤ 12 * d + c ∧ (1 ≤ (ordStep (lv, sm, al) m).2.2 ∧ (ordStep (lv, sm, al) m).2.2 ≤ 12 * c) := by
  unfold ordStep
  by_cases h : 0 < m
  · rw [if_pos h]
    have hg : 0 < Nat.gcd lv m := Nat.gcd_pos_of_pos_right _ h
    have hd : Nat.gcd lv m ∣ lv := Nat.gcd_dvd_left _ _
    have h4 : 1 ≤ lv / Nat.gcd lv m := Nat.div_pos (Nat.le_of_dvd (by omega) hd) hg
    have h5 : lv / Nat.gcd lv m ≤ lv := Nat.div_le_self _ _
    refine ⟨⟨Nat.mul_pos h4 h, ?_⟩, ?_, ⟨Nat.mul_pos h3.1 h, ?_⟩⟩
    · calc lv / Nat.gcd lv m * m ≤ c * 12 := Nat.mul_le_mul (by omega) hm
        _ = 12 * c := Nat.mul_comm _ _
    · show sm * m + al ≤ 12 * d + c
      have : sm * m ≤ d * 12 := Nat.mul_le_mul h2 hm
      omega
    · calc al * m ≤ c * 12 := Nat.mul_le_mul h3.2 hm
        _ = 12 * c := Nat.mul_comm _ _
  · rw [if_neg h]
    exact ⟨⟨h1.1, by simp; omega⟩, by simp; omega, ⟨h3.1, by simp; omega⟩⟩

theorem not_bad {m : Int} (h : badOrder m = false) : 0 ≤ m ∧ m ≠ 1 ∧ m ≤ 12 := by
  simp [badOrder] at h
  omega

theorem pre_bound {L : List Int} : ∀ k, k ≤ 3 → k ≤ L.length → ∀ lv sm al, pre L k = some (lv, sm, al) → 1 ≤ lv ∧ lv ≤ 1728 ∧ sm ≤ 432 ∧ 1 ≤ al ∧ al ≤ 1728 := by
  have key : ∀ k, k ≤ L.length → ∀ lv sm al, pre L k = some (lv, sm, al) → (1 ≤ lv ∧ lv ≤ 12 ^ k) ∧ sm ≤ k * 12 ^ (k - 1) ∧ (1 ≤ al ∧ al ≤ 12 ^ k) := by
    intro k
    induction k with
    | zero => intro _ lv sm al h; cases h; simp
    | succ k ih =>
      intro hk lv sm al h
      obtain ⟨m, hm⟩ : ∃ m, L[k]? = some m := ⟨L[k], List.getElem?_eq_getElem (by omega)⟩
      rw [pre_succ hm] at h
      cases hb : badOrder m with
      | true => rw [hb] at h; cases h
      | false =>
        rw [hb] at h
        cases hp : pre L k with
        | none => rw [hp] at h; cases h
        | some s =>
          obtain ⟨a, b, c⟩ := s
          rw [hp] at h
          simp only [Bool.false_eq_true, if_false, Option.map_some, Option.some.injEq] at h
          obtain ⟨h1, h2, h3⟩ := ih (by omega) a b c hp
          have hm' := not_bad hb
          have := ordStep_bound (m := m.toNat) (by omega) h1 h2 h3
          rw [h] at this
          obtain ⟨t1, t2, t3⟩ := this
          simp only at t1 t2 t3
          refine ⟨⟨t1.1, by rw [Nat.pow_succ]; omega⟩, ?_, ⟨t3.1, by rw [Nat.pow_succ]; omega⟩⟩
          refine Nat.le_trans t2 ?_
          cases k with
          | zero => simp
          | succ k =>
            simp only [Nat.add_sub_cancel]
            rw [Nat.pow_succ, Nat.succ_mul (k + 1)]
            have : 12 * ((k + 1) * 12 ^ k) = (k + 1) * (12 ^ k * 12) := by rw [Nat.mul_comm 12, Nat.mul_assoc]
            omega
  intro k hk hkl lv sm al h
  obtain ⟨⟨h1, h2⟩, h3, ⟨h4, h5⟩⟩ := key k hkl lv sm al h
  obtain rfl | rfl | rfl | rfl : k = 0 ∨ k = 1 ∨ k = 2 ∨ k = 3 := by omega
  all_goals simp at h2 h3 h5; omega

theorem ordErr_pre (a b c : Int) : ordErr a b c = match pre [a, b, c] 3 with | none => 1 | some s => if s.2.2 ≤ s.2.1 then 1 else if 60 < s.1 then 4 else 0 := by
  unfold ordErr pre
  simp only [List.take, List.foldl]
  cases badOrder a <;> cases badOrder b <;> cases badOrder c <;> simp

theorem pre_bad {L : List Int} {k : Nat} {m : Int} (hL : L.length = 3) (h : L[k]? = some m) (hb : badOrder m = true) : pre L 3 = none := by
  have hk := (List.getElem?_eq_some_iff.1 h).1
  have h1 : pre L (k + 1) = none := by rw [pre_succ h, hb]; rfl
  have h2 : ∀ j, pre L (k + 1 + j) = none := by
    intro j
    induction j with
    | zero => exact h1
    | succ j ih =>
      by_cases hj : k + 1 + j < L.length
      · rw [← Nat.add_assoc, pre_succ (List.getElem?_eq_getElem hj), ih]; simp
      · unfold pre at ih ⊢
        rw [List.take_of_length_le (by omega)] at ih ⊢
        exact ih
  have := h2 (2 - k)
  rwa [show k + 1 + (2 - k) = 3 by omega] at this

theorem walk_cons {o : Ord} {fuel : Nat} {G G'' : List Node} {x y : Nat} {c : UInt8} {l : List UInt8} (h : walk o fuel G x (c :: l) = some (G'', y)) :
    ∃ G' x', step o fuel G x c.toNat = some (G', x') ∧ walk o fuel G' x' l = some (G'', y) := by
  unfold walk at h
  cases hs : step o fuel G x c.toNat with
  | none => rw [hs] at h; cases h
  | some p => obtain ⟨G', x'⟩ := p; rw [hs] at h; exact ⟨G', x', rfl, h⟩

def toOrd (a b c : Int) : Ord := ⟨a.toNat, b.toNat, c.toNat⟩

theorem ordErr_zero {a b c : Int} (h : ordErr a b c = 0) : (0 ≤ a ∧ a ≠ 1 ∧ a ≤ 12) ∧ (0 ≤ b ∧ b ≠ 1 ∧ b ≤ 12) ∧ (0 ≤ c ∧ c ≠ 1 ∧ c ≤ 12) := by
  unfold ordErr at h
  cases ha : badOrder a <;> cases hb : badOrder b <;> cases hc : badOrder c <;> simp [ha, hb, hc] at h
  exact ⟨not_bad ha, not_bad hb, not_bad hc⟩

/-- The error of some words. -/
def wordsErr : List (List UInt8) → Int
  | [] => 0
  | l :: r => if wordErr l ≠ 0 then wordErr l else wordsErr r

theorem wordErr_letters {l : List UInt8} (h : wordErr l = 0) : (∀ (k : Nat) (hk : k < l.length), l[k].toNat < 3) ∧ l.length ≤ 60 := by
  unfold wordErr at h
  by_cases h1 : l.any (2 < ·) = true
  · rw [if_pos h1] at h; cases h
  · rw [if_neg h1] at h
    by_cases h2 : 60 < l.length
    · rw [if_pos h2] at h; cases h
    · refine ⟨fun k hk => ?_, by omega⟩
      have h3 : ¬ (2 < l[k]) := fun h4 => h1 (List.any_eq_true.2 ⟨l[k], List.getElem_mem hk, by simpa using h4⟩)
      have h5 : ¬ ((2 : UInt8).toNat < l[k].toNat) := fun h => h3 (UInt8.lt_iff_toNat_lt.2 h)
      simp at h5
      omega

theorem wordsErr_drop {ws : List (List UInt8)} {k : Nat} (hk : k < ws.length) : wordsErr (ws.drop k) = if wordErr ws[k] ≠ 0 then wordErr ws[k] else wordsErr (ws.drop (k + 1)) := by
  rw [List.drop_eq_getElem_cons hk]; rfl

theorem wordsErr_zero : ∀ {ws : List (List UInt8)}, wordsErr ws = 0 → ∀ l ∈ ws, wordErr l = 0
  | [], _, l, h => by cases h
  | a :: r, hw, l, h => by
    unfold wordsErr at hw
    by_cases ha : wordErr a = 0
    · rw [if_neg (by simpa using ha)] at hw
      rcases List.mem_cons.1 h with rfl | h
      · exact ha
      · exact wordsErr_zero hw l h
    · rw [if_pos ha] at hw; exact absurd hw ha

theorem walk_append {o : Ord} {fuel : Nat} : ∀ {a b : List UInt8} {G G'' : List Node} {x y : Nat}, walk o fuel G x (a ++ b) = some (G'', y) → ∃ G' x', walk o fuel G x a = some (G', x') ∧ walk o fuel G' x' b = some (G'', y)
  | [], b, G, G'', x, y, h => ⟨G, x, rfl, h⟩
  | c :: a, b, G, G'', x, y, h => by
    obtain ⟨G1, x1, h1, h2⟩ := walk_cons h
    obtain ⟨G2, x2, h3, h4⟩ := walk_append h2
    exact ⟨G2, x2, by unfold walk; rw [h1]; exact h3, h4⟩

/-- The normal word of a word, as the graph tells it. -/
def norm (o : Ord) (fuel : Nat) (l : List UInt8) : Option (List UInt8) :=
  match walk o fuel start 0 l with
  | none => none
  | some (G, y) => (G[y]?).map (·.word)

theorem norm_some {o : Ord} {fuel : Nat} {l nf : List UInt8} (h : norm o fuel l = some nf) : ∃ G y n, walk o fuel start 0 l = some (G, y) ∧ G[y]? = some n ∧ n.word = nf := by
  unfold norm at h
  cases hw : walk o fuel start 0 l with
  | none => rw [hw] at h; cases h
  | some p =>
    obtain ⟨G, y⟩ := p
    rw [hw] at h
    cases hn : G[y]? with
    | none => simp only [hn] at h; cases h
    | some n => simp only [hn] at h; cases h; exact ⟨G, y, n, rfl, hn, rfl⟩

/-- The error of orders and words. -/
def allErr (a b c : Int) (ws : List (List UInt8)) : Int := if ordErr a b c ≠ 0 then ordErr a b c else wordsErr ws

theorem allErr_bad {a b c : Int} {ws : List (List UInt8)} (h : ordErr a b c ≠ 0) : allErr a b c ws = ordErr a b c := if_pos h
theorem allErr_ok {a b c : Int} {ws : List (List UInt8)} (h : ordErr a b c = 0) : allErr a b c ws = wordsErr ws := if_neg (by simpa using h)
theorem wordsErr_one (l : List UInt8) : wordsErr [l] = wordErr l := by
  unfold wordsErr
  by_cases h : wordErr l = 0
  · rw [if_neg (by simpa using h), h]; rfl
  · rw [if_pos h]
theorem wordsErr_two (l r : List UInt8) : wordsErr [l, r] = if wordErr l ≠ 0 then wordErr l else wordErr r := by
  show (if wordErr l ≠ 0 then wordErr l else wordsErr [r]) = _
  rw [wordsErr_one]

/-- A text that a thing may have, or the empty one. -/
def thingByte (c : UInt8) : Bool := 32 ≤ c.toNat && c.toNat ≤ 126
def isThing (l : List UInt8) : Bool := l.all thingByte && l.length ≤ 20

theorem isThing_bad {l : List UInt8} {k : Nat} (h : k < l.length) (h2 : thingByte l[k] = false) : isThing l = false := by
  unfold isThing
  rw [Bool.and_eq_false_iff]
  exact .inl (List.all_eq_false.2 ⟨l[k], List.getElem_mem h, by simp [h2]⟩)
theorem isThing_ok {l : List UInt8} (h : l.all thingByte = true) : isThing l = decide (l.length ≤ 20) := by
  unfold isThing; rw [h]; simp
theorem all_take_succ {l : List UInt8} {k : Nat} (hk : k < l.length) (h : (l.take k).all thingByte = true) (h2 : thingByte l[k] = true) : (l.take (k + 1)).all thingByte = true := by
  rw [List.take_succ_eq_append_getElem hk, List.all_append, h]; simpa using h2

/-- Two texts compared. -/
def cmpB : List UInt8 → List UInt8 → Int
  | [], [] => 0
  | [], _ :: _ => -1
  | _ :: _, [] => 1
  | a :: as, b :: bs => if a < b then -1 else if b < a then 1 else cmpB as bs

/-- Two words compared: shorter and first. -/
def cmpW (a b : List UInt8) : Int := if a.length < b.length then -1 else if b.length < a.length then 1 else cmpB a b

/-- The near side between a tile and the one over its side. -/
def nearOf (a b : List UInt8) : List UInt8 := if b.length < a.length then b else a

/-- A walk from a tile along the last r letters of a word, up to the first wall. -/
def goSteps (o : Ord) (fuel : Nat) (wall : List UInt8 → Int → Bool) (su l : List UInt8) : Nat → List UInt8 → Option (List UInt8 × Nat)
  | 0, x => some (x, l.length)
  | r + 1, x =>
    if wordsErr [su, l.take (l.length - r)] ≠ 0 then none else
    match norm o fuel (su ++ l.take (l.length - r)), l[l.length - (r + 1)]? with
    | some next, some c => if wall (nearOf x next) c.toNat then some (x, l.length - (r + 1)) else goSteps o fuel wall su l r next
    | _, _ => none

theorem goSteps_succ {o : Ord} {fuel : Nat} {wall : List UInt8 → Int → Bool} {su l : List UInt8} {r : Nat} {x : List UInt8} {p : List UInt8 × Nat} (h : goSteps o fuel wall su l (r + 1) x = some p) :
    wordsErr [su, l.take (l.length - r)] = 0 ∧ ∃ next c, norm o fuel (su ++ l.take (l.length - r)) = some next ∧ l[l.length - (r + 1)]? = some c ∧
      ((wall (nearOf x next) c.toNat = true ∧ p = (x, l.length - (r + 1))) ∨ (wall (nearOf x next) c.toNat = false ∧ goSteps o fuel wall su l r next = some p)) := by
  unfold goSteps at h
  by_cases h1 : wordsErr [su, l.take (l.length - r)] = 0
  · rw [if_neg (by simpa using h1)] at h
    refine ⟨h1, ?_⟩
    cases hn : norm o fuel (su ++ l.take (l.length - r)) with
    | none => rw [hn] at h; cases h
    | some next =>
      cases hc : l[l.length - (r + 1)]? with
      | none => rw [hn, hc] at h; cases h
      | some c =>
        rw [hn, hc] at h
        simp only at h
        refine ⟨next, c, rfl, rfl, ?_⟩
        cases hw : wall (nearOf x next) c.toNat with
        | true => rw [hw] at h; simp only [if_true] at h; cases h; exact .inl ⟨rfl, rfl⟩
        | false => rw [hw] at h; simp only [Bool.false_eq_true, if_false] at h; exact .inr ⟨rfl, h⟩
  · rw [if_pos h1] at h; cases h

end Hy
