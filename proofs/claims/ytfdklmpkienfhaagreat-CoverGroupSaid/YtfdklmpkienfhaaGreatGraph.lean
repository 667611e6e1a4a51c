import Derived.Test.YtfdklmpkienfhaaGreatOrd

/- Plain Lean, no program: three mirrors of the hyperbolic plane: no tile has three sides that lead down. -/
namespace Hy
set_option linter.unusedSimpArgs false
set_option linter.unusedVariables false

/-- A row of steps down, in turns over the sides a and b. -/
def Ch (dn : Nat → Nat → Option Nat) : Nat → Nat → Nat → Nat → Prop
  | 0, _, _, _ => True
  | k + 1, i, a, b => ∃ j, dn i a = some j ∧ Ch dn k j b a

theorem Ch_le {dn : Nat → Nat → Option Nat} : ∀ {k m i a b : Nat}, k ≤ m → Ch dn m i a b → Ch dn k i a b
  | 0, _, _, _, _, _, _ => trivial
  | k + 1, 0, _, _, _, h, _ => absurd h (by omega)
  | k + 1, m + 1, i, a, b, h, ⟨j, h1, h2⟩ => ⟨j, h1, Ch_le (Nat.le_of_succ_le_succ h) h2⟩

/-- What the tiles of a graph have below them. -/
structure Downs (o : Ord) (dn : Nat → Nat → Option Nat) (ln : Nat → Nat) : Prop where
  less : ∀ {i a j}, dn i a = some j → ln j < ln i
  top : ∀ {i a b j k}, a < 3 → b < 3 → a ≠ b → dn i a = some j → dn i b = some k → 0 < o.m a b ∧ Ch dn (o.m a b) i a b
  meet : ∀ {i a b j k}, a < 3 → b < 3 → a ≠ b → o.m a b = 2 → dn i a = some j → dn i b = some k → ∃ v, dn j b = some v ∧ dn k a = some v

/-- Three different mirrors. -/
structure Three (a b c : Nat) : Prop where
  pa : a < 3
  pb : b < 3
  pc : c < 3
  ab : a ≠ b
  bc : b ≠ c
  ac : a ≠ c

/-- Orders of a triangle of the hyperbolic plane, as far as it matters. -/
structure Fine (o : Ord) : Prop where
  le : ∀ a b, o.m a b ≤ 12
  ang : 27720 / o.m12 + 27720 / o.m02 + 27720 / o.m01 < 27720
  one : ∀ a b, a < 3 → b < 3 → a ≠ b → o.m a b ≠ 1
  two : ∀ a b c, Three a b c → o.m a b = 2 → ((o.m a c = 0 ∨ 4 ≤ o.m a c) ∧ (o.m b c = 0 ∨ 4 ≤ o.m b c)) ∨ (o.m a c = 3 ∧ (o.m b c = 0 ∨ 6 ≤ o.m b c)) ∨ (o.m b c = 3 ∧ (o.m a c = 0 ∨ 6 ≤ o.m a c))

theorem Ord.m_comm (o : Ord) (a b : Nat) : o.m a b = o.m b a := by unfold Ord.m; rw [Nat.add_comm]

section
variable {o : Ord} {dn : Nat → Nat → Option Nat} {ln : Nat → Nat}

theorem Downs.ch (D : Downs o dn ln) {i a b j k : Nat} (n : Nat) (hn : o.m a b = 0 ∨ n ≤ o.m a b) (ha : a < 3) (hb : b < 3) (hab : a ≠ b) (h1 : dn i a = some j) (h2 : dn i b = some k) : Ch dn n i a b := by
  obtain ⟨h3, h4⟩ := D.top ha hb hab h1 h2
  exact Ch_le (hn.elim (fun h => by omega) id) h4

/-- No order is 2. -/
theorem Downs.no3 (D : Downs o dn ln) (hm : ∀ a b, a < 3 → b < 3 → a ≠ b → o.m a b = 0 ∨ 3 ≤ o.m a b) :
    ∀ n x a b c xa xb xac, ln x ≤ n → Three a b c → dn x a = some xa → dn x b = some xb → dn xa c = some xac → False := by
  intro n
  induction n with
  | zero => intro x a b c xa xb xac hn _ h _ _; have := D.less h; omega
  | succ n ih =>
    intro x a b c xa xb xac hn t h1 h2 h3
    obtain ⟨y1, e1, y2, e2, y3, e3, _⟩ := D.ch 3 (hm a b t.pa t.pb t.ab) t.pa t.pb t.ab h1 h2
    cases h1.symm.trans e1
    exact ih xa b c a y2 xac y3 (by have := D.less h1; omega) ⟨t.pb, t.pc, t.pa, t.bc, t.ac.symm, t.ab.symm⟩ e2 h3 e3

/-- a and b commute, both orders with c are at least 4. -/
theorem Downs.no4 (D : Downs o dn ln) {a b c : Nat} (t : Three a b c) (h2 : o.m a b = 2) (hp : o.m a c = 0 ∨ 4 ≤ o.m a c) (hq : o.m b c = 0 ∨ 4 ≤ o.m b c) :
    ∀ n x xb xc xca, ln x ≤ n → dn x c = some xc → dn x b = some xb → dn xc a = some xca → False := by
  intro n
  induction n with
  | zero => intro x xb xc xca hn h _ _; have := D.less h; omega
  | succ n ih =>
    intro x xb xc xca hn k1 k2 k3
    obtain ⟨x1, e1, x2, e2, x3, e3, x4, e4, _⟩ := D.ch 4 (by rw [o.m_comm]; exact hq) t.pc t.pb t.bc.symm k1 k2
    cases k1.symm.trans e1
    obtain ⟨v1, f1, f2⟩ := D.meet t.pa t.pb t.ab h2 k3 e2
    obtain ⟨g1, g2, g3, g4, g5, g6, g7, g8, _⟩ := D.ch 4 (by rw [o.m_comm]; exact hp) t.pc t.pa t.ac.symm e3 f2
    cases e3.symm.trans g2
    obtain ⟨v2, l1, l2⟩ := D.meet t.pa t.pb t.ab h2 g4 e4
    exact ih g3 v2 g5 g7 (by have := D.less g4; have := D.less e3; have := D.less e2; have := D.less e1; omega) g6 l1 g8

/-- a and b commute, the order of a and c is 3. -/
theorem Downs.noG (D : Downs o dn ln) {a b c : Nat} (t : Three a b c) (h2 : o.m a b = 2) (hp : o.m a c = 3) (hq : o.m b c = 0 ∨ 6 ≤ o.m b c) :
    ∀ n z zb zc zbc zbca, ln z ≤ n → dn z b = some zb → dn z c = some zc → dn zb c = some zbc → dn zbc a = some zbca → False := by
  intro n
  induction n with
  | zero => intro z zb zc zbc zbca hn h _ _ _; have := D.less h; omega
  | succ n ih =>
    intro z zb zc zbc zbca hn k1 k2 k3 k4
    have hca : o.m c a = 3 := by rw [o.m_comm]; exact hp
    obtain ⟨z1, e1, z2, e2, z3, e3, z4, e4, z5, e5, z6, e6, _⟩ := D.ch 6 hq t.pb t.pc t.bc k1 k2
    cases k1.symm.trans e1
    cases k3.symm.trans e2
    obtain ⟨p, f1, f2⟩ := D.meet t.pa t.pb t.ab h2 k4 e3
    obtain ⟨q1, g1, z', g2, z'c, g3, _⟩ := D.ch 3 (by omega) t.pc t.pa t.ac.symm e4 f2
    cases e4.symm.trans g1
    obtain ⟨r1, l1, p1, l2, p2, l3, _⟩ := D.ch 3 (by omega) t.pa t.pc t.ac f2 e4
    cases f2.symm.trans l1
    obtain ⟨r, m1, m2⟩ := D.meet t.pa t.pb t.ab h2 g2 e5
    obtain ⟨r2, n1, n2, n3, n4, n5, _⟩ := D.ch 3 (by omega) t.pa t.pc t.ac m2 e6
    cases m2.symm.trans n1
    exact ih z' r z'c n2 n4 (by have := D.less g2; have := D.less e4; have := D.less e3; have := D.less e2; have := D.less e1; omega) m1 g3 n3 n5

theorem Downs.noD (D : Downs o dn ln) {a b c : Nat} (t : Three a b c) (h2 : o.m a b = 2) (hp : o.m a c = 3) (hq : o.m b c = 0 ∨ 6 ≤ o.m b c)
    {x xb xc xca : Nat} (k1 : dn x c = some xc) (k2 : dn x b = some xb) (k3 : dn xc a = some xca) : False := by
  have hca : o.m c a = 3 := by rw [o.m_comm]; exact hp
  obtain ⟨x1, e1, x2, e2, x3, e3, x4, e4, x5, e5, _⟩ := D.ch 5 (by rw [o.m_comm]; omega) t.pc t.pb t.bc.symm k1 k2
  cases k1.symm.trans e1
  obtain ⟨v, f1, f2⟩ := D.meet t.pa t.pb t.ab h2 k3 e2
  obtain ⟨q1, g1, z, g2, zc, g3, _⟩ := D.ch 3 (by omega) t.pc t.pa t.ac.symm e3 f2
  cases e3.symm.trans g1
  obtain ⟨e, m1, m2⟩ := D.meet t.pa t.pb t.ab h2 g2 e4
  obtain ⟨r2, n1, n2, n3, n4, n5, _⟩ := D.ch 3 (by omega) t.pa t.pc t.ac m2 e5
  cases m2.symm.trans n1
  exact D.noG t h2 hp hq _ z e zc n2 n4 (Nat.le_refl _) m1 g3 n3 n5

/-- No tile has three sides that lead down, not even a third one that a corner would ask for. -/
theorem Downs.no (D : Downs o dn ln) (F : Fine o) {y s t u ys yt : Nat} (T : Three s t u) (k1 : dn y s = some ys) (k2 : dn y t = some yt) (hm : 0 < o.m t u) (hc : Ch dn (o.m t u) y t u) : False := by
  have n1 := F.one _ _ T.pa T.pb T.ab
  have n2 := F.one _ _ T.pb T.pc T.bc
  have n3 := F.one _ _ T.pa T.pc T.ac
  have c1 := o.m_comm s t
  have c2 := o.m_comm t u
  have c3 := o.m_comm s u
  have p1 := (D.top T.pa T.pb T.ab k1 k2).1
  obtain ⟨y1, d1, y2, d2, _⟩ := Ch_le (k := 2) (by omega) hc
  cases k2.symm.trans d1
  by_cases a1 : o.m s t = 2
  · -- s and t commute
    obtain ⟨v, f1, f2⟩ := D.meet T.pa T.pb T.ab a1 k1 k2
    rcases F.two _ _ _ T a1 with ⟨q1, q2⟩ | ⟨q1, q2⟩ | ⟨q1, q2⟩
    · obtain ⟨z1, e1, z2, e2, z3, e3, _⟩ := Ch_le (k := 3) (by omega) hc
      cases k2.symm.trans e1
      cases d2.symm.trans e2
      obtain ⟨x1, g1, w, g2, w1, g3, w2, g4, _⟩ := D.ch 4 (by omega) T.pc T.pa T.ac.symm d2 f2
      cases d2.symm.trans g1
      obtain ⟨e, l1, l2⟩ := D.meet T.pa T.pb T.ab a1 g2 e3
      exact D.no4 T a1 q1 q2 _ w e w1 w2 (Nat.le_refl _) g3 l1 g4
    · obtain ⟨z1, e1, z2, e2, z3, e3, z4, e4, _⟩ := Ch_le (k := 4) (by omega) hc
      cases k2.symm.trans e1
      cases d2.symm.trans e2
      obtain ⟨x1, g1, w, g2, w1, g3, _⟩ := D.ch 3 (by omega) T.pc T.pa T.ac.symm d2 f2
      cases d2.symm.trans g1
      obtain ⟨e, l1, l2⟩ := D.meet T.pa T.pb T.ab a1 g2 e3
      obtain ⟨x2, r1, e5, r2, e6, r3, _⟩ := D.ch 3 (by omega) T.pa T.pc T.ac l2 e4
      cases l2.symm.trans r1
      exact D.noG T a1 q1 q2 _ w e w1 e5 e6 (Nat.le_refl _) l1 g3 r2 r3
    · obtain ⟨z1, e1, z2, e2, z3, e3, _⟩ := Ch_le (k := 3) (by omega) hc
      cases k2.symm.trans e1
      cases d2.symm.trans e2
      exact D.noD ⟨T.pb, T.pa, T.pc, T.ab.symm, T.ac, T.bc⟩ (by omega) q1 q2 d2 f2 e3
  by_cases a2 : o.m t u = 2
  · -- t and u commute
    have T' : Three t u s := ⟨T.pb, T.pc, T.pa, T.bc, T.ac.symm, T.ab.symm⟩
    obtain ⟨z1, e1, z2, e2, z3, e3, _⟩ := D.ch 3 (by omega) T.pb T.pa T.ab.symm k2 k1
    cases k2.symm.trans e1
    rcases F.two _ _ _ T' a2 with ⟨q1, q2⟩ | ⟨q1, q2⟩ | ⟨q1, q2⟩
    · exact D.no4 T' a2 q1 q2 _ yt y2 z2 z3 (Nat.le_refl _) e2 d2 e3
    · exact D.noD T' a2 q1 q2 e2 d2 e3
    · obtain ⟨x1, g1, w, g2, _⟩ := D.ch 2 (by omega) T.pa T.pc T.ac e2 d2
      cases e2.symm.trans g1
      exact D.noG ⟨T.pc, T.pb, T.pa, T.bc.symm, T.ab.symm, T.ac.symm⟩ (by omega) q1 q2 _ y yt ys z2 w (Nat.le_refl _) k2 k1 e2 g2
  by_cases a3 : o.m s u = 2
  · -- s and u commute
    have T' : Three u s t := ⟨T.pc, T.pa, T.pb, T.ac.symm, T.ab, T.bc.symm⟩
    rcases F.two _ _ _ T' (by omega) with ⟨q1, q2⟩ | ⟨q1, q2⟩ | ⟨q1, q2⟩
    · exact D.no4 T' (by omega) q1 q2 _ y ys yt y2 (Nat.le_refl _) k2 k1 d2
    · exact D.noD T' (by omega) q1 q2 k2 k1 d2
    · obtain ⟨z1, e1, z2, e2, z3, e3, _⟩ := Ch_le (k := 3) (by omega) hc
      cases k2.symm.trans e1
      cases d2.symm.trans e2
      obtain ⟨x1, g1, w, g2, w1, g3, _⟩ := D.ch 3 (by omega) T.pb T.pa T.ab.symm k2 k1
      cases k2.symm.trans g1
      obtain ⟨e, l1, l2⟩ := D.meet T.pa T.pc T.ac (by omega) g2 d2
      obtain ⟨x2, r1, e5, r2, e6, r3, _⟩ := D.ch 3 (by omega) T.pa T.pb T.ab l2 e3
      cases l2.symm.trans r1
      exact D.noG ⟨T.pa, T.pc, T.pb, T.ac, T.bc.symm, T.ab⟩ (by omega) q1 (by omega) _ w e w1 e5 e6 (Nat.le_refl _) l1 g3 r2 r3
  · refine D.no3 (fun a b ha hb hab => ?_) _ y t s u yt ys y2 (Nat.le_refl _) ⟨T.pb, T.pa, T.pc, T.ab.symm, T.ac, T.bc⟩ k2 k1 d2
    have h1 := F.one a b ha hb hab
    have h2 : o.m a b ≠ 2 := by
      obtain ⟨r1, r2, r3, r4, r5, r6⟩ := T
      rcases (show (a = s ∨ a = t ∨ a = u) ∧ (b = s ∨ b = t ∨ b = u) by omega) with ⟨rfl | rfl | rfl, rfl | rfl | rfl⟩
      all_goals first | exact absurd rfl hab | omega
    omega
end

end Hy

/- Plain Lean, no program: the graph of tiles that grows: what holds of it, and that a step keeps it. -/
namespace Hy
set_option linter.unusedSimpArgs false
set_option linter.unusedVariables false

abbrev Word := List UInt8

/-- Rows of letters in turns: the first one that begins with a, the second one that ends with it. -/
def V : Nat → Nat → Nat → Word
  | 0, _, _ => []
  | k + 1, a, b => letter a ++ V k b a
def U : Nat → Nat → Nat → Word
  | 0, _, _ => []
  | k + 1, a, b => U k b a ++ letter a

/-- Words of the same motion. -/
inductive Eqv (o : Ord) : Word → Word → Prop
  | refl (w) : Eqv o w w
  | symm {u v} : Eqv o u v → Eqv o v u
  | trans {u v w} : Eqv o u v → Eqv o v w → Eqv o u w
  | two (p q : Word) {s : Nat} : s < 3 → Eqv o (p ++ (letter s ++ letter s) ++ q) (p ++ q)
  | turn (p q : Word) {a b : Nat} : a < 3 → b < 3 → a ≠ b → 0 < o.m a b → Eqv o (p ++ V (o.m a b + o.m a b) a b ++ q) (p ++ q)

theorem Eqv.ctx {o : Ord} (l r : Word) {u v : Word} (h : Eqv o u v) : Eqv o (l ++ u ++ r) (l ++ v ++ r) := by
  induction h with
  | refl w => exact .refl _
  | symm _ ih => exact .symm ih
  | trans _ _ ih1 ih2 => exact .trans ih1 ih2
  | two p q hs => simpa using Eqv.two (o := o) (l ++ p) (q ++ r) hs
  | turn p q ha hb hab hm => simpa using Eqv.turn (o := o) (l ++ p) (q ++ r) ha hb hab hm

theorem Eqv.left {o : Ord} (l : Word) {u v : Word} (h : Eqv o u v) : Eqv o (l ++ u) (l ++ v) := by simpa using h.ctx l []
theorem Eqv.right {o : Ord} (r : Word) {u v : Word} (h : Eqv o u v) : Eqv o (u ++ r) (v ++ r) := by simpa using h.ctx [] r
theorem Eqv.pair {o : Ord} {s : Nat} (hs : s < 3) (w : Word) : Eqv o (w ++ letter s ++ letter s) w := by simpa using Eqv.two (o := o) w [] hs

theorem U_V : ∀ (k a b : Nat), U k a b = if k % 2 = 0 then V k b a else V k a b
  | 0, a, b => rfl
  | 1, a, b => rfl
  | k + 2, a, b => by
    have h1 : U (k + 2) a b = U k a b ++ letter b ++ letter a := rfl
    have key : ∀ (k a b : Nat), V (k + 1) a b = V k a b ++ letter (if k % 2 = 0 then a else b) := by
      intro k
      induction k with
      | zero => intro a b; simp [V]
      | succ k ih =>
        intro a b
        show letter a ++ V (k + 1) b a = letter a ++ V k b a ++ _
        rw [ih b a, List.append_assoc]
        congr 2
        by_cases h : k % 2 = 0
        · rw [if_pos h, if_neg (by omega)]
        · rw [if_neg h, if_pos (by omega)]
    rw [h1, U_V k a b]
    by_cases h : k % 2 = 0
    · rw [if_pos h, if_pos (by omega), key (k + 1) b a, key k b a, if_pos h, if_neg (by omega)]
    · rw [if_neg h, if_neg (by omega), key (k + 1) a b, key k a b, if_neg h, if_pos (by omega)]

theorem V_add : ∀ (k l a b : Nat), V (k + l) a b = V k a b ++ (if k % 2 = 0 then V l a b else V l b a)
  | 0, l, a, b => by simp [V]
  | k + 1, l, a, b => by
    rw [show k + 1 + l = (k + l) + 1 by omega]
    show letter a ++ V (k + l) b a = letter a ++ V k b a ++ _
    rw [V_add k l b a, List.append_assoc]
    by_cases h : k % 2 = 0
    · rw [if_pos h, if_neg (by omega)]
    · rw [if_neg h, if_pos (by omega)]

/-- A row in turns, followed by itself turned about, is nothing. -/
theorem U_back {o : Ord} : ∀ (k a b : Nat), a < 3 → b < 3 → Eqv o (U k a b ++ V k a b) []
  | 0, a, b, _, _ => .refl _
  | k + 1, a, b, ha, hb => by
    show Eqv o (U k b a ++ letter a ++ (letter a ++ V k b a)) []
    refine .trans ?_ (U_back k b a hb ha)
    simpa using Eqv.two (o := o) (U k b a) (V k b a) ha

/-- Both ways around half a corner. -/
theorem braid {o : Ord} {a b : Nat} (ha : a < 3) (hb : b < 3) (hab : a ≠ b) (hm : 0 < o.m a b) : Eqv o (U (o.m a b) a b) (U (o.m a b) b a) := by
  have hba : o.m b a = o.m a b := o.m_comm b a
  have h1 : Eqv o (U (o.m a b) a b ++ V (o.m a b) b a) [] := by
    rw [U_V]
    by_cases h : o.m a b % 2 = 0
    · rw [if_pos h]
      have := Eqv.turn (o := o) [] [] hb ha hab.symm (by omega)
      rw [hba, V_add, if_pos h] at this
      simpa using this
    · rw [if_neg h]
      have := Eqv.turn (o := o) [] [] ha hb hab hm
      rw [V_add, if_neg h] at this
      simpa using this
  have h2 : Eqv o (V (o.m a b) b a ++ U (o.m a b) b a) [] := by
    have key : ∀ (k a b : Nat), a < 3 → b < 3 → Eqv o (V k a b ++ U k a b) [] := by
      intro k a b ha hb
      have e1 := U_V k a b
      by_cases h : k % 2 = 0
      · have e2 := U_V k b a
        rw [if_pos h] at e1 e2
        rw [e1, ← e2]; exact U_back k b a hb ha
      · have h4 := U_back (o := o) k a b ha hb
        rw [if_neg h] at e1
        rw [e1] at h4 ⊢; exact h4
    exact key _ b a hb ha
  have h3 : Eqv o (U (o.m a b) a b) (U (o.m a b) a b ++ (V (o.m a b) b a ++ U (o.m a b) b a)) := by simpa using (h2.left (U (o.m a b) a b)).symm
  refine h3.trans ?_
  rw [← List.append_assoc]
  simpa using h1.right (U (o.m a b) b a)

/-- What a graph tells of a tile. -/
def tod (G : List Node) (i s : Nat) : Option Nat := match G[i]? with | some n => n.to s | none => none
def dnb (G : List Node) (i s : Nat) : Bool := match G[i]? with | some n => n.down s | none => false
def wd (G : List Node) (i : Nat) : Word := match G[i]? with | some n => n.word | none => []
def dn (G : List Node) (i s : Nat) : Option Nat := if dnb G i s = true then tod G i s else none

theorem dn_some {G : List Node} {i s j : Nat} : dn G i s = some j ↔ dnb G i s = true ∧ tod G i s = some j := by
  unfold dn
  by_cases h : dnb G i s = true
  · rw [if_pos h]; exact ⟨fun e => ⟨h, e⟩, fun e => e.2⟩
  · rw [if_neg h]; exact ⟨fun e => (by cases e), fun e => absurd e.1 h⟩

theorem tod_lt {G : List Node} {i s j : Nat} (h : tod G i s = some j) : i < G.length := by
  unfold tod at h
  cases hn : G[i]? with
  | none => rw [hn] at h; cases h
  | some n => exact (List.getElem?_eq_some_iff.1 hn).1
theorem dnb_lt {G : List Node} {i s : Nat} (h : dnb G i s = true) : i < G.length := by
  unfold dnb at h
  cases hn : G[i]? with
  | none => rw [hn] at h; cases h
  | some n => exact (List.getElem?_eq_some_iff.1 hn).1
theorem wd_some {G : List Node} {i : Nat} {n : Node} (h : G[i]? = some n) : wd G i = n.word := by unfold wd; rw [h]
theorem wd_out {G : List Node} {i : Nat} (h : G.length ≤ i) : wd G i = [] := by unfold wd; rw [List.getElem?_eq_none h]

/-- So many steps down in turns lead from x to v. -/
def Dch (G : List Node) : Nat → Nat → Nat → Nat → Nat → Prop
  | 0, x, _, _, v => x = v
  | k + 1, x, a, b, v => ∃ j, dn G x a = some j ∧ Dch G k j b a v

theorem Dch_fun {G : List Node} : ∀ {k x a b v v' : Nat}, Dch G k x a b v → Dch G k x a b v' → v = v'
  | 0, _, _, _, _, _, h1, h2 => h1.symm.trans h2
  | k + 1, _, _, _, _, _, ⟨j, h1, h2⟩, ⟨j', h3, h4⟩ => by cases h1.symm.trans h3; exact Dch_fun h2 h4

theorem Dch_next {G : List Node} : ∀ {k m x a b v w : Nat}, k < m → Dch G k x a b w → Dch G m x a b v → ∃ c j, (c = a ∨ c = b) ∧ dn G w c = some j
  | 0, m + 1, x, a, b, v, w, _, h1, ⟨j, h2, _⟩ => by cases h1; exact ⟨a, j, .inl rfl, h2⟩
  | k + 1, m + 1, x, a, b, v, w, h, ⟨j, h1, h2⟩, ⟨j', h3, h4⟩ => by
    cases h1.symm.trans h3
    obtain ⟨c, j2, h5, h6⟩ := Dch_next (Nat.lt_of_succ_lt_succ h) h2 h4
    exact ⟨c, j2, h5.symm, h6⟩

theorem Dch_mono {G G' : List Node} (hm : ∀ i a j, dn G i a = some j → dn G' i a = some j) : ∀ {k x a b v : Nat}, Dch G k x a b v → Dch G' k x a b v
  | 0, _, _, _, _, h => h
  | k + 1, _, _, _, _, ⟨j, h1, h2⟩ => ⟨j, hm _ _ _ h1, Dch_mono hm h2⟩

theorem Dch_back {G G' : List Node} (P : Nat → Prop) (hm : ∀ i a j, P i → dn G' i a = some j → dn G i a = some j ∧ P j) : ∀ {k x a b v : Nat}, P x → Dch G' k x a b v → Dch G k x a b v ∧ P v
  | 0, _, _, _, _, hx, h => ⟨h, by cases h; exact hx⟩
  | k + 1, _, _, _, _, hx, ⟨j, h1, h2⟩ => by
    obtain ⟨h3, h4⟩ := hm _ _ _ hx h1
    obtain ⟨h5, h6⟩ := Dch_back P hm h4 h2
    exact ⟨⟨j, h3, h5⟩, h6⟩

theorem Dch_Ch {G : List Node} : ∀ {k x a b v : Nat}, Dch G k x a b v → Ch (dn G) k x a b
  | 0, _, _, _, _, _ => trivial
  | k + 1, _, _, _, _, ⟨j, h1, h2⟩ => ⟨j, h1, Dch_Ch h2⟩

/-- What holds of a graph; the tiles of E are not yet done. -/
structure Inv (o : Ord) (G : List Node) (E : Nat → Prop) : Prop where
  pos : 0 < G.length
  root : wd G 0 = []
  lets : ∀ i, ∀ c ∈ wd G i, c.toNat < 3
  sym : ∀ {i s j}, tod G i s = some j → s < 3 ∧ tod G j s = some i
  lo : ∀ {i s}, dnb G i s = true → ∃ j, tod G i s = some j ∧ (wd G i).length = (wd G j).length + 1
  up : ∀ {i s j}, tod G i s = some j → dnb G i s = false → dnb G j s = true
  snd : ∀ {i s j}, tod G i s = some j → Eqv o (wd G i ++ letter s) (wd G j)
  top : ∀ {i a b}, dnb G i a = true → dnb G i b = true → a ≠ b → 0 < o.m a b ∧ ∃ v, Dch G (o.m a b) i a b v ∧ Dch G (o.m a b) i b a v ∧ dnb G v a = false ∧ dnb G v b = false
  full : ∀ {i a b v}, ¬ E i → a ≠ b → a < 3 → b < 3 → 0 < o.m a b → Dch G (o.m a b) i a b v → dnb G i b = true
  nf1 : ∀ {i s j}, ¬ E i → dnb G i s = true → tod G i s = some j → less (wd G j ++ letter s) (wd G i) = false
  nf2 : ∀ {i}, ¬ E i → i < G.length → i ≠ 0 → ∃ s j, dnb G i s = true ∧ tod G i s = some j ∧ wd G i = wd G j ++ letter s

section
variable {o : Ord} {G : List Node} {E : Nat → Prop}

theorem Inv.lo' (I : Inv o G E) {i s j : Nat} (h : dn G i s = some j) : s < 3 ∧ dnb G i s = true ∧ tod G i s = some j ∧ tod G j s = some i ∧ (wd G i).length = (wd G j).length + 1 := by
  obtain ⟨h1, h2⟩ := dn_some.1 h
  obtain ⟨j', h3, h4⟩ := I.lo h1
  cases h2.symm.trans h3
  exact ⟨(I.sym h2).1, h1, h2, (I.sym h2).2, h4⟩

/-- A side does not lead down on both of its sides. -/
theorem Inv.one (I : Inv o G E) {i s j : Nat} (h : tod G i s = some j) (h1 : dnb G i s = true) : dnb G j s = false := by
  cases h2 : dnb G j s with
  | false => rfl
  | true =>
    obtain ⟨k, h3, h4⟩ := I.lo h2
    obtain ⟨k', h5, h6⟩ := I.lo h1
    cases h.symm.trans h5
    cases h3.symm.trans (I.sym h).2
    omega

theorem Inv.lo_of (I : Inv o G E) {i s : Nat} (h : dnb G i s = true) : ∃ j, Hy.dn G i s = some j := by
  obtain ⟨j, h1, _⟩ := I.lo h
  exact ⟨j, dn_some.2 ⟨h, h1⟩⟩

theorem Inv.rise (I : Inv o G E) {i s j : Nat} (h : tod G i s = some j) (h1 : dnb G i s = false) : Hy.dn G j s = some i ∧ (wd G j).length = (wd G i).length + 1 := by
  have h2 := I.up h h1
  have h3 : Hy.dn G j s = some i := dn_some.2 ⟨h2, (I.sym h).2⟩
  exact ⟨h3, (I.lo' h3).2.2.2.2⟩

theorem Dch_inj (I : Inv o G E) : ∀ {k x x' a b v : Nat}, Dch G k x a b v → Dch G k x' a b v → x = x'
  | 0, _, _, _, _, _, h1, h2 => h1.trans h2.symm
  | k + 1, _, _, _, _, _, ⟨j, h1, h2⟩, ⟨j', h3, h4⟩ => by
    cases Dch_inj I h2 h4
    have e1 := (I.lo' h1).2.2.2.1
    have e2 := (I.lo' h3).2.2.2.1
    exact Option.some.inj (e1.symm.trans e2)

theorem Dch_len (I : Inv o G E) : ∀ {k x a b v : Nat}, Dch G k x a b v → (wd G x).length = (wd G v).length + k
  | 0, _, _, _, _, h => by cases h; rfl
  | k + 1, _, _, _, _, ⟨j, h1, h2⟩ => by have := Dch_len I h2; have := (I.lo' h1).2.2.2.2; omega

theorem Dch_lt (I : Inv o G E) : ∀ {k x a b v : Nat}, x < G.length → Dch G k x a b v → v < G.length
  | 0, _, _, _, _, hx, h => by cases h; exact hx
  | k + 1, _, _, _, _, _, ⟨j, h1, h2⟩ => Dch_lt I (tod_lt (I.lo' h1).2.2.2.1) h2

theorem Dch_eqv (I : Inv o G E) : ∀ {k x a b v : Nat}, Dch G k x a b v → Eqv o (wd G v ++ U k a b) (wd G x)
  | 0, _, _, _, _, h => by cases h; simpa [U] using Eqv.refl _
  | k + 1, x, a, b, v, ⟨j, h1, h2⟩ => by
    show Eqv o (wd G v ++ (U k b a ++ letter a)) (wd G x)
    rw [← List.append_assoc]
    exact ((Dch_eqv I h2).right _).trans (I.snd (I.lo' h1).2.2.2.1)

theorem Dch_more (I : Inv o G E) : ∀ {k x a b v c : Nat}, Dch G (k + 1) x a b v → c = a ∨ c = b → dnb G v c = true → ∃ v', Dch G (k + 2) x a b v'
  | 0, x, a, b, v, c, ⟨j, h1, h2⟩, hc, hd => by
    cases h2
    rcases hc with rfl | rfl
    · rw [I.one (I.lo' h1).2.2.1 (I.lo' h1).2.1] at hd; cases hd
    · obtain ⟨j', h3⟩ := I.lo_of hd
      exact ⟨j', _, h1, j', h3, rfl⟩
  | k + 1, x, a, b, v, c, ⟨j, h1, h2⟩, hc, hd => by
    obtain ⟨v', h3⟩ := Dch_more I h2 hc.symm hd
    exact ⟨v', j, h1, h3⟩

theorem lowest_dch (I : Inv o G E) : ∀ {k x a b : Nat}, x < G.length → (∃ v, lowest G k x a b = some (some v) ∧ Dch G k x a b v) ∨ (lowest G k x a b = some none ∧ ∀ v, ¬ Dch G k x a b v)
  | 0, x, _, _, _ => .inl ⟨x, rfl, rfl⟩
  | k + 1, x, a, b, hx => by
    unfold lowest
    have hn : G[x]? = some G[x] := List.getElem?_eq_getElem hx
    rw [hn]
    simp only
    have hd : dnb G x a = G[x].down a := by unfold dnb; rw [hn]
    have ht : tod G x a = G[x].to a := by unfold tod; rw [hn]
    rw [← hd, ← ht]
    cases h : dnb G x a with
    | false =>
      refine .inr ⟨by simp, fun v ⟨j, h1, _⟩ => ?_⟩
      rw [(I.lo' h1).2.1] at h; cases h
    | true =>
      obtain ⟨j, h1, _⟩ := I.lo h
      rw [h1]
      simp only [if_true]
      have hj : dn G x a = some j := dn_some.2 ⟨h, h1⟩
      rcases lowest_dch (k := k) (a := b) (b := a) I (tod_lt (I.sym h1).2) with ⟨v, h2, h3⟩ | ⟨h2, h3⟩
      · exact .inl ⟨v, h2, j, hj, h3⟩
      · refine .inr ⟨h2, fun v ⟨j', h4, h5⟩ => ?_⟩
        cases hj.symm.trans h4
        exact h3 v h5

theorem Inv.downs (I : Inv o G E) : Downs o (Hy.dn G) (fun i => (wd G i).length) where
  less h := by have := (I.lo' h).2.2.2.2; show _ < _; omega
  top _ _ hab h1 h2 := by
    obtain ⟨h3, v, h4, _⟩ := I.top (I.lo' h1).2.1 (I.lo' h2).2.1 hab
    exact ⟨h3, Dch_Ch h4⟩
  meet _ _ hab hm h1 h2 := by
    obtain ⟨_, v, h4, h5, _⟩ := I.top (I.lo' h1).2.1 (I.lo' h2).2.1 hab
    rw [hm] at h4 h5
    obtain ⟨j, e1, k, e2, e3⟩ := h4
    obtain ⟨j', e4, k', e5, e6⟩ := h5
    cases h1.symm.trans e1
    cases h2.symm.trans e4
    have e7 : k = k' := e3.trans e6.symm
    subst e7
    exact ⟨k, e2, e5⟩

/-- At a tile above the bottom of a corner, but not at its top, the next side does not lead down. -/
theorem Inv.notdown (I : Inv o G E) {k z l l' v : Nat} (hll : l ≠ l') (h1 : dnb G v l = false) (h2 : dnb G v l' = false) (hk : k < o.m l l') (h : Dch G k z l' l v) : dnb G z l = false := by
  cases hz : dnb G z l with
  | false => rfl
  | true =>
    cases k with
    | zero => cases h; rw [h1] at hz; cases hz
    | succ k =>
      have hzz := h
      obtain ⟨j, h3, _⟩ := hzz
      obtain ⟨_, v', h4, _⟩ := I.top (I.lo' h3).2.1 hz hll.symm
      obtain ⟨c, j', h5, h6⟩ := Dch_next (by rw [o.m_comm]; exact hk) h h4
      have h7 := (I.lo' h6).2.1
      rcases h5 with rfl | rfl
      · rw [h2] at h7; cases h7
      · rw [h1] at h7; cases h7
end

theorem tod_link {G : List Node} {z y t i r : Nat} (hz : z < G.length) (hy : y < G.length) (hzy : z ≠ y) :
    tod (link G z y t) i r = if r = t ∧ i = z then some y else if r = t ∧ i = y then some z else tod G i r := by
  unfold tod link
  simp only [List.getElem?_modify]
  by_cases h1 : y = i
  · subst h1
    rw [List.getElem?_eq_getElem hy]
    by_cases hr : r = t
    · simp [hr, hzy.symm, setDown, setTo]
    · simp [hr, setDown, setTo, hzy]
  · by_cases h2 : z = i
    · subst h2
      rw [List.getElem?_eq_getElem hz]
      by_cases hr : r = t
      · simp [hr, h1, setTo]
      · simp [hr, h1, setTo]
    · cases hn : G[i]? with
      | none => simp [h1, h2, Ne.symm h1, Ne.symm h2]
      | some n => simp [h1, h2, Ne.symm h1, Ne.symm h2]

theorem dnb_link {G : List Node} {z y t i r : Nat} (hy : y < G.length) : dnb (link G z y t) i r = if i = y ∧ r = t then true else dnb G i r := by
  unfold dnb link
  simp only [List.getElem?_modify]
  by_cases h1 : y = i
  · subst h1
    rw [List.getElem?_eq_getElem hy]
    by_cases h2 : z = y
    · by_cases hr : r = t
      · simp [hr, h2, setDown, setTo]
      · simp [hr, h2, setDown, setTo]
    · by_cases hr : r = t
      · simp [hr, h2, setDown, setTo]
      · simp [hr, h2, setDown, setTo]
  · by_cases h2 : z = i
    · subst h2
      cases hn : G[z]? with
      | none => simp [h1, Ne.symm h1]
      | some n => simp [h1, Ne.symm h1, setTo]
    · cases hn : G[i]? with
      | none => simp [h1, h2, Ne.symm h1]
      | some n => simp [h1, h2, Ne.symm h1]

theorem wd_link {G : List Node} {z y t i : Nat} : wd (link G z y t) i = wd G i := by
  unfold wd link
  simp only [List.getElem?_modify]
  cases hn : G[i]? with
  | none => by_cases h1 : y = i <;> by_cases h2 : z = i <;> simp [h1, h2]
  | some n => by_cases h1 : y = i <;> by_cases h2 : z = i <;> simp [h1, h2, setDown, setTo]

theorem tod_word {G : List Node} {y i r : Nat} {w : Word} : tod (G.modify y (setWord w)) i r = tod G i r := by
  unfold tod
  simp only [List.getElem?_modify]
  cases hn : G[i]? with
  | none => by_cases h1 : y = i <;> simp [h1]
  | some n => by_cases h1 : y = i <;> simp [h1, setWord]
theorem dnb_word {G : List Node} {y i r : Nat} {w : Word} : dnb (G.modify y (setWord w)) i r = dnb G i r := by
  unfold dnb
  simp only [List.getElem?_modify]
  cases hn : G[i]? with
  | none => by_cases h1 : y = i <;> simp [h1]
  | some n => by_cases h1 : y = i <;> simp [h1, setWord]
theorem wd_word {G : List Node} {y i : Nat} {w : Word} (hy : y < G.length) : wd (G.modify y (setWord w)) i = if i = y then w else wd G i := by
  unfold wd
  simp only [List.getElem?_modify]
  by_cases h1 : y = i
  · subst h1
    rw [List.getElem?_eq_getElem hy]
    simp [setWord]
  · cases hn : G[i]? with
    | none => simp [h1, Ne.symm h1]
    | some n => simp [h1, Ne.symm h1]

theorem tod_fresh {G : List Node} {i r : Nat} {w : Word} : tod (G ++ [fresh w]) i r = tod G i r := by
  unfold tod
  rcases Nat.lt_trichotomy i G.length with h | h | h
  · rw [List.getElem?_append_left h]
  · subst h; simp [fresh]
  · rw [List.getElem?_eq_none (by simp; omega), List.getElem?_eq_none (by omega)]
theorem dnb_fresh {G : List Node} {i r : Nat} {w : Word} : dnb (G ++ [fresh w]) i r = dnb G i r := by
  unfold dnb
  rcases Nat.lt_trichotomy i G.length with h | h | h
  · rw [List.getElem?_append_left h]
  · subst h; simp [fresh]
  · rw [List.getElem?_eq_none (by simp; omega), List.getElem?_eq_none (by omega)]
theorem wd_fresh {G : List Node} {i : Nat} {w : Word} : wd (G ++ [fresh w]) i = if i = G.length then w else wd G i := by
  unfold wd
  rcases Nat.lt_trichotomy i G.length with h | h | h
  · rw [List.getElem?_append_left h, if_neg (by omega)]
  · subst h; simp [fresh]
  · rw [List.getElem?_eq_none (by simp; omega), List.getElem?_eq_none (by omega), if_neg (by omega)]

theorem dn_congr {G G' : List Node} (h1 : ∀ i s, dnb G' i s = dnb G i s) (h2 : ∀ i s, tod G' i s = tod G i s) : Hy.dn G' = Hy.dn G := by
  funext i s; unfold dn; rw [h1, h2]
theorem Dch_congr {G G' : List Node} (h : Hy.dn G' = Hy.dn G) {k x a b v : Nat} : Dch G' k x a b v ↔ Dch G k x a b v :=
  ⟨Dch_mono fun i a j e => by rw [← h]; exact e, Dch_mono fun i a j e => by rw [h]; exact e⟩

section
variable {o : Ord} {G : List Node} {E : Nat → Prop}

/-- A new tile that stands alone. -/
theorem Inv.fresh (I : Inv o G E) {w : Word} (hw : ∀ c ∈ w, c.toNat < 3) : Inv o (G ++ [Hy.fresh w]) (fun i => E i ∨ i = G.length) := by
  have hd : Hy.dn (G ++ [Hy.fresh w]) = Hy.dn G := dn_congr (fun _ _ => dnb_fresh) (fun _ _ => tod_fresh)
  have hwd : ∀ {i}, i < G.length → wd (G ++ [Hy.fresh w]) i = wd G i := fun h => by rw [wd_fresh, if_neg (by omega)]
  refine ⟨by simp, by rw [hwd I.pos, I.root], fun i c hc => ?_, fun h => ?_, fun h => ?_, fun h h1 => ?_, fun h => ?_, fun h1 h2 hab => ?_, fun hE hab ha hb hm h => ?_, fun hE h h1 => ?_, fun {i} hE hi h0 => ?_⟩
  · rw [wd_fresh] at hc
    by_cases hi : i = G.length
    · rw [if_pos hi] at hc; exact hw c hc
    · rw [if_neg hi] at hc; exact I.lets i c hc
  · rw [tod_fresh] at h ⊢; exact I.sym h
  · rw [dnb_fresh] at h
    obtain ⟨j, h1, h2⟩ := I.lo h
    refine ⟨j, by rw [tod_fresh]; exact h1, ?_⟩
    rw [hwd (dnb_lt h), hwd (tod_lt (I.sym h1).2)]; exact h2
  · rw [tod_fresh] at h; rw [dnb_fresh] at h1 ⊢; exact I.up h h1
  · rw [tod_fresh] at h
    rw [hwd (tod_lt h), hwd (tod_lt (I.sym h).2)]; exact I.snd h
  · rw [dnb_fresh] at h1 h2
    obtain ⟨h3, v, h4, h5, h6, h7⟩ := I.top h1 h2 hab
    exact ⟨h3, v, (Dch_congr hd).2 h4, (Dch_congr hd).2 h5, by rw [dnb_fresh]; exact h6, by rw [dnb_fresh]; exact h7⟩
  · rw [dnb_fresh]
    exact I.full (fun e => hE (.inl e)) hab ha hb hm ((Dch_congr hd).1 h)
  · rw [dnb_fresh] at h; rw [tod_fresh] at h1
    rw [hwd (tod_lt h1), hwd (tod_lt (I.sym h1).2)]
    exact I.nf1 (fun e => hE (.inl e)) h h1
  · have hi' : i < G.length := by
      have h4 : i ≠ G.length := fun e => hE (.inr e)
      simp at hi
      omega
    obtain ⟨s, j, h1, h2, h3⟩ := I.nf2 (fun e => hE (.inl e)) hi' h0
    refine ⟨s, j, by rw [dnb_fresh]; exact h1, by rw [tod_fresh]; exact h2, ?_⟩
    rw [hwd hi', hwd (tod_lt (I.sym h2).2)]; exact h3

/-- Below other tiles than y, which has nothing above it, nothing changes. -/
theorem Inv.below (I : Inv o G E) {y i a j : Nat} (hup : ∀ r j, tod G y r = some j → dnb G y r = true) (h : Hy.dn G i a = some j) : j ≠ y := by
  rintro rfl
  obtain ⟨_, h1, h2, h3, _⟩ := I.lo' h
  have h4 := hup _ _ h3
  rw [I.one h2 h1] at h4; cases h4

/-- Two tiles become neighbours. -/
theorem Inv.link (I : Inv o G E) {z y t : Nat} (hz : z < G.length) (hy : y < G.length) (ht : t < 3) (hE : E y) (hl : (wd G y).length = (wd G z).length + 1)
    (n1 : tod G z t = none) (n2 : tod G y t = none) (hup : ∀ r j, tod G y r = some j → dnb G y r = true) (hs : Eqv o (wd G z ++ letter t) (wd G y))
    (htop : ∀ r, r ≠ t → dnb G y r = true → 0 < o.m r t ∧ ∃ v, Dch (Hy.link G z y t) (o.m r t) y r t v ∧ Dch (Hy.link G z y t) (o.m r t) y t r v ∧ dnb (Hy.link G z y t) v r = false ∧ dnb (Hy.link G z y t) v t = false) :
    Inv o (Hy.link G z y t) E ∧ (∀ i a j, Hy.dn G i a = some j → Hy.dn (Hy.link G z y t) i a = some j) := by
  have hzy : z ≠ y := by rintro rfl; omega
  have hT := fun i r => tod_link (t := t) (i := i) (r := r) hz hy hzy
  have hD := fun i r => dnb_link (z := z) (t := t) (i := i) (r := r) hy
  have hT' : ∀ {i r j}, tod G i r = some j → tod (Hy.link G z y t) i r = some j := fun {i r j} h => by
    rw [hT, if_neg (by rintro ⟨rfl, rfl⟩; rw [n1] at h; cases h), if_neg (by rintro ⟨rfl, rfl⟩; rw [n2] at h; cases h)]; exact h
  have hzt : dnb G z t = false := by
    cases h : dnb G z t with
    | false => rfl
    | true => obtain ⟨j, h1, _⟩ := I.lo h; rw [n1] at h1; cases h1
  have hmono : ∀ i a j, Hy.dn G i a = some j → Hy.dn (Hy.link G z y t) i a = some j := fun i a j h => by
    obtain ⟨h1, h2⟩ := dn_some.1 h
    refine dn_some.2 ⟨?_, hT' h2⟩
    rw [hD]
    by_cases hh : i = y ∧ a = t
    · rw [if_pos hh]
    · rw [if_neg hh]; exact h1
  have hback : ∀ i a j, i ≠ y → Hy.dn (Hy.link G z y t) i a = some j → Hy.dn G i a = some j ∧ j ≠ y := fun i a j hi h => by
    obtain ⟨h1, h2⟩ := dn_some.1 h
    rw [hD, if_neg (fun e => hi e.1)] at h1
    obtain ⟨j', h3⟩ := I.lo_of h1
    have h4 := (dn_some.1 h3).2
    cases h2.symm.trans (hT' h4)
    exact ⟨h3, I.below hup h3⟩
  refine ⟨⟨by rw [length_link]; exact I.pos, by rw [wd_link]; exact I.root, fun i c hc => ?_, fun {i r j} h => ?_, fun {i r} h => ?_, fun {i r j} h h1 => ?_, fun {i r j} h => ?_, fun {i a b} h1 h2 hab => ?_, fun {i a b v} hEi hab ha hb hm h => ?_, fun {i r j} hEi h h1 => ?_, fun {i} hEi hi h0 => ?_⟩, hmono⟩
  · rw [wd_link] at hc; exact I.lets i c hc
  · rw [hT] at h
    by_cases c1 : r = t ∧ i = z
    · rw [if_pos c1] at h; cases h
      obtain ⟨rfl, rfl⟩ := c1
      exact ⟨ht, by rw [hT, if_neg (by rintro ⟨_, e⟩; exact hzy e.symm), if_pos ⟨rfl, rfl⟩]⟩
    · rw [if_neg c1] at h
      by_cases c2 : r = t ∧ i = y
      · rw [if_pos c2] at h; cases h
        obtain ⟨rfl, rfl⟩ := c2
        exact ⟨ht, by rw [hT, if_pos ⟨rfl, rfl⟩]⟩
      · rw [if_neg c2] at h
        exact ⟨(I.sym h).1, hT' (I.sym h).2⟩
  · rw [hD] at h
    by_cases c : i = y ∧ r = t
    · obtain ⟨rfl, rfl⟩ := c
      exact ⟨z, by rw [hT, if_neg (by rintro ⟨_, e⟩; exact hzy e.symm), if_pos ⟨rfl, rfl⟩], by rw [wd_link, wd_link]; exact hl⟩
    · rw [if_neg c] at h
      obtain ⟨j, h1, h2⟩ := I.lo h
      exact ⟨j, hT' h1, by rw [wd_link, wd_link]; exact h2⟩
  · rw [hT] at h
    rw [hD] at h1
    by_cases c1 : r = t ∧ i = z
    · rw [if_pos c1] at h; cases h
      rw [hD, if_pos ⟨rfl, c1.1⟩]
    · rw [if_neg c1] at h
      by_cases c2 : r = t ∧ i = y
      · rw [if_pos ⟨c2.2, c2.1⟩] at h1; cases h1
      · rw [if_neg c2] at h
        rw [if_neg (fun e => c2 e.symm)] at h1
        rw [hD]
        by_cases c3 : j = y ∧ r = t
        · rw [if_pos c3]
        · rw [if_neg c3]; exact I.up h h1
  · rw [hT] at h
    rw [wd_link, wd_link]
    by_cases c1 : r = t ∧ i = z
    · rw [if_pos c1] at h; cases h
      obtain ⟨rfl, rfl⟩ := c1
      exact hs
    · rw [if_neg c1] at h
      by_cases c2 : r = t ∧ i = y
      · rw [if_pos c2] at h; cases h
        obtain ⟨rfl, rfl⟩ := c2
        exact (hs.symm.right (letter r)).trans (Eqv.pair ht _)
      · rw [if_neg c2] at h; exact I.snd h
  · by_cases hi : i = y
    · subst hi
      by_cases ca : a = t
      · subst ca
        rw [hD, if_neg (by rintro ⟨_, e⟩; exact hab e.symm)] at h2
        obtain ⟨h3, v, h4, h5, h6, h7⟩ := htop b hab.symm h2
        rw [o.m_comm a b]
        exact ⟨h3, v, h5, h4, h7, h6⟩
      · rw [hD, if_neg (fun e => ca e.2)] at h1
        by_cases cb : b = t
        · subst cb
          exact htop a hab h1
        · rw [hD, if_neg (fun e => cb e.2)] at h2
          obtain ⟨h3, v, h4, h5, h6, h7⟩ := I.top h1 h2 hab
          have hv : v ≠ i := by rintro rfl; have := Dch_len I h4; omega
          exact ⟨h3, v, Dch_mono hmono h4, Dch_mono hmono h5, by rw [hD, if_neg (fun e => hv e.1)]; exact h6, by rw [hD, if_neg (fun e => hv e.1)]; exact h7⟩
    · rw [hD, if_neg (fun e => hi e.1)] at h1 h2
      obtain ⟨h3, v, h4, h5, h6, h7⟩ := I.top h1 h2 hab
      have hv : v ≠ y := (Dch_back (· ≠ y) hback hi (Dch_mono hmono h4)).2
      exact ⟨h3, v, Dch_mono hmono h4, Dch_mono hmono h5, by rw [hD, if_neg (fun e => hv e.1)]; exact h6, by rw [hD, if_neg (fun e => hv e.1)]; exact h7⟩
  · have hi : i ≠ y := by rintro rfl; exact hEi hE
    rw [hD, if_neg (fun e => hi e.1)]
    exact I.full hEi hab ha hb hm (Dch_back (· ≠ y) hback hi h).1
  · have hi : i ≠ y := by rintro rfl; exact hEi hE
    rw [hD, if_neg (fun e => hi e.1)] at h
    obtain ⟨j', h3⟩ := I.lo_of h
    cases h1.symm.trans (hT' (dn_some.1 h3).2)
    rw [wd_link, wd_link]
    exact I.nf1 hEi h (dn_some.1 h3).2
  · rw [length_link] at hi
    have hiy : i ≠ y := by rintro rfl; exact hEi hE
    obtain ⟨s, j, h1, h2, h3⟩ := I.nf2 hEi hi h0
    exact ⟨s, j, by rw [hD, if_neg (fun e => hiy e.1)]; exact h1, hT' h2, by rw [wd_link, wd_link]; exact h3⟩

/-- A tile that is not done gets another word. -/
theorem Inv.word (I : Inv o G E) {y : Nat} {w : Word} (hy : y < G.length) (hE : E y) (h0 : y ≠ 0) (hup : ∀ r j, tod G y r = some j → dnb G y r = true)
    (hw : Eqv o w (wd G y)) (hl : w.length = (wd G y).length) (hlet : ∀ c ∈ w, c.toNat < 3) : Inv o (G.modify y (setWord w)) E := by
  have hd : Hy.dn (G.modify y (setWord w)) = Hy.dn G := dn_congr (fun _ _ => dnb_word) (fun _ _ => tod_word)
  have hW : ∀ i, Eqv o (wd (G.modify y (setWord w)) i) (wd G i) ∧ (wd (G.modify y (setWord w)) i).length = (wd G i).length := fun i => by
    rw [wd_word hy]
    by_cases h : i = y
    · subst h; rw [if_pos rfl]; exact ⟨hw, hl⟩
    · rw [if_neg h]; exact ⟨.refl _, rfl⟩
  refine ⟨by rw [List.length_modify]; exact I.pos, by rw [wd_word hy, if_neg h0.symm]; exact I.root, fun i c hc => ?_, fun {i r j} h => ?_, fun {i r} h => ?_, fun {i r j} h h1 => ?_, fun {i r j} h => ?_, fun {i a b} h1 h2 hab => ?_, fun {i a b v} hEi hab ha hb hm h => ?_, fun {i r j} hEi h h1 => ?_, fun {i} hEi hi h0 => ?_⟩
  · rw [wd_word hy] at hc
    by_cases h : i = y
    · rw [if_pos h] at hc; exact hlet c hc
    · rw [if_neg h] at hc; exact I.lets i c hc
  · rw [tod_word] at h ⊢; exact I.sym h
  · rw [dnb_word] at h
    obtain ⟨j, h1, h2⟩ := I.lo h
    exact ⟨j, by rw [tod_word]; exact h1, by rw [(hW i).2, (hW j).2]; exact h2⟩
  · rw [tod_word] at h; rw [dnb_word] at h1 ⊢; exact I.up h h1
  · rw [tod_word] at h
    exact (((hW i).1.right _).trans (I.snd h)).trans (hW j).1.symm
  · rw [dnb_word] at h1 h2
    obtain ⟨h3, v, h4, h5, h6, h7⟩ := I.top h1 h2 hab
    exact ⟨h3, v, (Dch_congr hd).2 h4, (Dch_congr hd).2 h5, by rw [dnb_word]; exact h6, by rw [dnb_word]; exact h7⟩
  · rw [dnb_word]
    exact I.full hEi hab ha hb hm ((Dch_congr hd).1 h)
  · rw [dnb_word] at h; rw [tod_word] at h1
    have hi : i ≠ y := by rintro rfl; exact hEi hE
    have hj : j ≠ y := I.below hup (dn_some.2 ⟨h, h1⟩)
    rw [wd_word hy, wd_word hy, if_neg hi, if_neg hj]
    exact I.nf1 hEi h h1
  · rw [List.length_modify] at hi
    have hiy : i ≠ y := by rintro rfl; exact hEi hE
    obtain ⟨s, j, h1, h2, h3⟩ := I.nf2 hEi hi h0
    have hj : j ≠ y := I.below hup (dn_some.2 ⟨h1, h2⟩)
    refine ⟨s, j, by rw [dnb_word]; exact h1, by rw [tod_word]; exact h2, ?_⟩
    rw [wd_word hy, wd_word hy, if_neg hiy, if_neg hj]; exact h3
end

end Hy

/- Plain Lean, no program: the graph of tiles has few tiles: the sum of the curvatures of its tiles stays the same, its border grows by at most two a step. -/
namespace Hy
set_option linter.unusedSimpArgs false
set_option linter.unusedVariables false

def sum (f : Nat → Int) : Nat → Int
  | 0 => 0
  | n + 1 => sum f n + f n

theorem sum_congr {f g : Nat → Int} : ∀ {n : Nat}, (∀ i, i < n → f i = g i) → sum f n = sum g n
  | 0, _ => rfl
  | n + 1, h => by unfold sum; rw [sum_congr (n := n) (fun i hi => h i (by omega)), h n (by omega)]
theorem sum_add (f g : Nat → Int) : ∀ n, sum (fun i => f i + g i) n = sum f n + sum g n
  | 0 => rfl
  | n + 1 => by unfold sum; rw [sum_add f g n]; omega
theorem sum_one (a : Int) (x : Nat) : ∀ n, sum (fun i => if i = x then a else 0) n = if x < n then a else 0
  | 0 => by simp [sum]
  | n + 1 => by
    unfold sum
    rw [sum_one a x n]
    by_cases h1 : x < n
    · rw [if_pos h1, if_neg (by omega), if_pos (by omega)]; omega
    · by_cases h2 : n = x
      · rw [if_neg h1, if_pos h2, if_pos (by omega)]; omega
      · rw [if_neg h1, if_neg h2, if_neg (by omega)]; omega
theorem sum_mem (a : Int) : ∀ (L : List Nat) (n : Nat), L.Nodup → (∀ x ∈ L, x < n) → sum (fun i => if i ∈ L then a else 0) n = a * (L.length : Nat)
  | [], n, _, _ => by
    have : ∀ n, sum (fun i => if i ∈ ([] : List Nat) then a else 0) n = 0 := fun n => by
      induction n with
      | zero => rfl
      | succ n ih => unfold sum; rw [ih]; simp
    rw [this]; simp
  | x :: L, n, hn, hb => by
    obtain ⟨h1, h2⟩ := List.nodup_cons.1 hn
    have h3 := sum_mem a L n h2 (fun y hy => hb y (List.mem_cons_of_mem _ hy))
    have h4 := sum_one a x n
    rw [if_pos (hb x List.mem_cons_self)] at h4
    rw [sum_congr (g := fun i => (if i = x then a else 0) + (if i ∈ L then a else 0)) (fun i _ => ?_), sum_add, h3, h4]
    · simp only [List.length_cons]
      rw [Int.natCast_add, Int.mul_add]
      simp
      omega
    · by_cases hi : i = x
      · subst hi
        rw [if_pos List.mem_cons_self, if_pos rfl, if_neg h1]; omega
      · by_cases hl : i ∈ L
        · rw [if_pos (List.mem_cons_of_mem _ hl), if_neg hi, if_pos hl]; omega
        · rw [if_neg (by rintro h; rcases List.mem_cons.1 h with h | h; exact hi h; exact hl h), if_neg hi, if_neg hl]; rfl
theorem sum_le {f g : Nat → Int} : ∀ {n : Nat}, (∀ i, i < n → f i ≤ g i) → sum f n ≤ sum g n
  | 0, _ => Int.le_refl _
  | n + 1, h => by have := sum_le (n := n) (fun i hi => h i (by omega)); have := h n (by omega); unfold sum; omega
theorem sum_const (a : Int) : ∀ n : Nat, sum (fun _ => a) n = a * n
  | 0 => by simp [sum]
  | n + 1 => by unfold sum; rw [sum_const a n, Int.natCast_add, Int.mul_add]; simp
theorem sum_mul (a : Int) (f : Nat → Int) : ∀ n, sum (fun i => a * f i) n = a * sum f n
  | 0 => by simp [sum]
  | n + 1 => by unfold sum; rw [sum_mul a f n, Int.mul_add]

def ed (G : List Node) (i s : Nat) : Int := if (tod G i s).isSome then 1 else 0
def dg (G : List Node) (i : Nat) : Int := ed G i 0 + ed G i 1 + ed G i 2
def bi (b : Bool) : Int := if b then 1 else 0
def fc (c : Nat → Nat → Bool) (i : Nat) : Int := bi (c i 0) + bi (c i 1) + bi (c i 2)
/-- The order of the corner opposite to a mirror. -/
def mu (o : Ord) (u : Nat) : Nat := if u = 0 then o.m 1 2 else if u = 1 then o.m 0 2 else o.m 0 1
def part (o : Ord) (u : Nat) : Int := ((27720 / mu o u : Nat) : Int)
def kap (o : Ord) (G : List Node) (c : Nat → Nat → Bool) (i : Nat) : Int := 55440 - 27720 * dg G i + (bi (c i 0) * part o 0 + bi (c i 1) * part o 1 + bi (c i 2) * part o 2)

/-- c tells which corners of which tiles are full. -/
structure Gh (o : Ord) (G : List Node) (c : Nat → Nat → Bool) (D : Int) : Prop where
  s1 : sum (kap o G c) G.length = 55440
  s2 : sum (fun i => dg G i - fc c i) G.length = D
  l0 : ∀ i u, c i u = true → u < 3 ∧ 0 < mu o u
  l1 : ∀ i u s, c i u = true → s < 3 → s ≠ u → tod G i s ≠ none
  l2 : ∀ i u s j, c i u = true → s ≠ u → tod G i s = some j → c j u = true

theorem gh_start (o : Ord) : Gh o start (fun _ _ => false) 0 := by
  have ht : ∀ r, tod start 0 r = none := fun r => rfl
  refine ⟨?_, ?_, fun _ _ h => (by cases h), fun _ _ _ h => (by cases h), fun _ _ _ _ h => (by cases h)⟩
  · show sum _ 1 = _
    simp [sum, kap, dg, ed, ht, bi]
  · show sum _ 1 = _
    simp [sum, dg, ed, ht, fc, bi]

theorem Gh.lt {o : Ord} {G : List Node} {c : Nat → Nat → Bool} {D : Int} (g : Gh o G c D) {i u : Nat} (h : c i u = true) : i < G.length := by
  have hu := (g.l0 i u h).1
  have h1 := g.l1 i u (if u = 0 then 1 else 0) h (by split <;> omega) (by split <;> omega)
  cases ht : tod G i (if u = 0 then 1 else 0) with
  | none => exact absurd ht h1
  | some j => exact tod_lt ht

/-- A few tiles, if the border is short. -/
theorem Gh.few {o : Ord} {G : List Node} {c : Nat → Nat → Bool} {D : Int} (g : Gh o G c D) (hsum : part o 0 + part o 1 + part o 2 < 27720) (hm : ∀ u, u < 3 → 0 ≤ part o u ∧ part o u ≤ 13860) (hd : ∀ i, i < G.length → i ≠ 0 → 1 ≤ dg G i) (h0 : 0 < G.length) :
    (G.length : Int) ≤ 27721 * D + 1 := by
  have h1 : ∀ i, i < G.length → kap o G c i + 1 ≤ 27721 * (dg G i - fc c i) + (if i = 0 then 55441 else 0) := fun i hi => by
    obtain ⟨sl, hsl, hdi⟩ : ∃ sl : Int, (if i = 0 then (55441 : Int) else 0) = sl ∧ (sl = 0 ∧ 1 ≤ dg G i ∨ sl = 55441) := by
      by_cases hi0 : i = 0
      · exact ⟨55441, if_pos hi0, .inr rfl⟩
      · exact ⟨0, if_neg hi0, .inl ⟨rfl, hd i hi hi0⟩⟩
    rw [hsl]
    have e : ∀ s, s < 3 → ed G i s = 0 ∨ ed G i s = 1 := fun s _ => by unfold ed; split <;> simp
    have k : ∀ u s, u < 3 → s < 3 → s ≠ u → c i u = true → ed G i s = 1 := fun u s _ hs hsu hc => by
      have := g.l1 i u s hc hs hsu
      unfold ed
      cases ht : tod G i s with
      | none => exact absurd ht this
      | some j => rfl
    have p0 := hm 0 (by omega)
    have p1 := hm 1 (by omega)
    have p2 := hm 2 (by omega)
    have e0 := e 0 (by omega)
    have e1 := e 1 (by omega)
    have e2 := e 2 (by omega)
    have k01 := k 0 1 (by omega) (by omega) (by omega)
    have k02 := k 0 2 (by omega) (by omega) (by omega)
    have k10 := k 1 0 (by omega) (by omega) (by omega)
    have k12 := k 1 2 (by omega) (by omega) (by omega)
    have k20 := k 2 0 (by omega) (by omega) (by omega)
    have k21 := k 2 1 (by omega) (by omega) (by omega)
    unfold kap fc dg at *
    cases h0 : c i 0 <;> cases h1 : c i 1 <;> cases h2 : c i 2 <;> simp only [h0, h1, h2, bi, if_true, Bool.false_eq_true, if_false, forall_const, false_implies] at k01 k02 k10 k12 k20 k21 ⊢ <;> omega
  have h2 := sum_le h1
  rw [sum_add (kap o G c) (fun _ => 1), g.s1, sum_const, sum_add (fun i => 27721 * (dg G i - fc c i)), sum_mul, g.s2, sum_one, if_pos h0] at h2
  omega

/-- So many steps down in turns, with the tiles on the way but the last one. -/
def ChL (G : List Node) : Nat → Nat → Nat → Nat → Nat → List Nat → Prop
  | 0, x, _, _, v, L => x = v ∧ L = []
  | k + 1, x, a, b, v, L => ∃ j L', dn G x a = some j ∧ ChL G k j b a v L' ∧ L = x :: L'

theorem ChL_of {G : List Node} : ∀ {k x a b v : Nat}, Dch G k x a b v → ∃ L, ChL G k x a b v L
  | 0, _, _, _, _, h => ⟨[], h, rfl⟩
  | k + 1, x, _, _, _, ⟨j, h1, h2⟩ => by obtain ⟨L, h3⟩ := ChL_of h2; exact ⟨x :: L, j, L, h1, h3, rfl⟩
theorem ChL_len {G : List Node} : ∀ {k x a b v : Nat} {L : List Nat}, ChL G k x a b v L → L.length = k
  | 0, _, _, _, _, _, ⟨_, h⟩ => by rw [h]; rfl
  | k + 1, _, _, _, _, _, ⟨j, L', _, h2, h3⟩ => by rw [h3, List.length_cons, ChL_len h2]
theorem ChL_dch {G : List Node} : ∀ {k x a b v : Nat} {L : List Nat}, ChL G k x a b v L → Dch G k x a b v
  | 0, _, _, _, _, _, ⟨h, _⟩ => h
  | k + 1, _, _, _, _, _, ⟨j, L', h1, h2, _⟩ => ⟨j, h1, ChL_dch h2⟩

/-- The one of two letters that comes behind n letters in turns. -/
def turnAt (n a b : Nat) : Nat := if n % 2 = 0 then a else b
theorem turnAt_succ (n a b : Nat) : turnAt (n + 1) a b = turnAt n b a := by
  unfold turnAt
  by_cases h : n % 2 = 0
  · rw [if_neg (by omega), if_pos h]
  · rw [if_pos (by omega), if_neg h]

theorem ChL_mem {G : List Node} : ∀ {k x a b v : Nat} {L : List Nat} {p : Nat}, ChL G k x a b v L → p ∈ L → ∃ n, n < k ∧ Dch G (k - n) p (turnAt n a b) (turnAt n b a) v
  | 0, _, _, _, _, _, _, ⟨_, h⟩, hp => by rw [h] at hp; cases hp
  | k + 1, x, a, b, v, _, p, ⟨j, L', h1, h2, h3⟩, hp => by
    subst h3
    rcases List.mem_cons.1 hp with rfl | hp
    · exact ⟨0, by omega, j, h1, ChL_dch h2⟩
    · obtain ⟨n, h4, h5⟩ := ChL_mem h2 hp
      exact ⟨n + 1, by omega, by rw [turnAt_succ, turnAt_succ, show k + 1 - (n + 1) = k - n by omega]; exact h5⟩

section
variable {o : Ord} {G : List Node} {E : Nat → Prop}

theorem ChL_nodup (I : Inv o G E) : ∀ {k x a b v : Nat} {L : List Nat}, ChL G k x a b v L → L.Nodup
  | 0, _, _, _, _, _, ⟨_, h⟩ => by rw [h]; exact List.nodup_nil
  | k + 1, x, a, b, v, _, ⟨j, L', h1, h2, h3⟩ => by
    subst h3
    refine List.nodup_cons.2 ⟨fun hx => ?_, ChL_nodup I h2⟩
    obtain ⟨n, h4, h5⟩ := ChL_mem h2 hx
    have := Dch_len I h5
    have := Dch_len I (ChL_dch h2)
    have := (I.lo' h1).2.2.2.2
    omega

theorem ChL_lt (I : Inv o G E) : ∀ {k x a b v : Nat} {L : List Nat} {p : Nat}, ChL G k x a b v L → p ∈ L → p < G.length
  | 0, _, _, _, _, _, _, ⟨_, h⟩, hp => by rw [h] at hp; cases hp
  | k + 1, x, a, b, v, _, p, ⟨j, L', h1, h2, h3⟩, hp => by
    subst h3
    rcases List.mem_cons.1 hp with rfl | hp
    · exact tod_lt (I.lo' h1).2.2.1
    · exact ChL_lt I h2 hp

/-- What is known at the tiles of a chain. -/
theorem ChL_known (I : Inv o G E) : ∀ {k x a b v : Nat} {L : List Nat} {p : Nat}, ChL G k x a b v L → p ∈ L → tod G p a ≠ none ∧ tod G p b ≠ none ∨ p = x ∧ tod G p a ≠ none
  | 0, _, _, _, _, _, _, ⟨_, h⟩, hp => by rw [h] at hp; cases hp
  | k + 1, x, a, b, v, _, p, ⟨j, L', h1, h2, h3⟩, hp => by
    subst h3
    rcases List.mem_cons.1 hp with rfl | hp
    · exact .inr ⟨rfl, by rw [(I.lo' h1).2.2.1]; simp⟩
    · rcases ChL_known I h2 hp with h4 | ⟨rfl, h4⟩
      · exact .inl h4.symm
      · exact .inl ⟨by rw [(I.lo' h1).2.2.2.1]; simp, h4⟩

theorem ChL_last (I : Inv o G E) : ∀ {k x a b v : Nat} {L : List Nat}, ChL G (k + 1) x a b v L → ∃ j, tod G v (turnAt k a b) = some j ∧ j ∈ L
  | 0, x, a, b, v, _, ⟨j, L', h1, ⟨h2, h4⟩, h3⟩ => by
    subst h2
    subst h3
    exact ⟨x, (I.lo' h1).2.2.2.1, List.mem_cons_self⟩
  | k + 1, x, a, b, v, _, ⟨j, L', h1, h2, h3⟩ => by
    subst h3
    obtain ⟨p, h4, h5⟩ := ChL_last I h2
    rw [turnAt_succ]
    exact ⟨p, h4, List.mem_cons_of_mem _ h5⟩

/-- The neighbours in the corner of a tile of a chain are in the chain, but for one of the first. -/
theorem ChL_next (I : Inv o G E) : ∀ {k x a b v : Nat} {L : List Nat} {p r j : Nat}, ChL G k x a b v L → p ∈ L → r = a ∨ r = b → tod G p r = some j → (p = x ∧ r = b) ∨ j = v ∨ j ∈ L
  | 0, _, _, _, _, _, _, _, _, ⟨_, h⟩, hp, _, _ => by rw [h] at hp; cases hp
  | k + 1, x, a, b, v, _, p, r, j, ⟨j0, L', h1, h2, h3⟩, hp, hr, hj => by
    subst h3
    rcases List.mem_cons.1 hp with rfl | hp
    · rcases hr with rfl | rfl
      · cases hj.symm.trans (I.lo' h1).2.2.1
        right
        cases k with
        | zero => exact .inl h2.1
        | succ k =>
          obtain ⟨_, _, _, _, h4⟩ := h2
          right
          rw [h4]
          exact List.mem_cons_of_mem _ List.mem_cons_self
      · exact .inl ⟨rfl, rfl⟩
    · rcases ChL_next I h2 hp hr.symm hj with ⟨rfl, rfl⟩ | h4 | h4
      · cases hj.symm.trans (I.lo' h1).2.2.2.1
        exact .inr (.inr List.mem_cons_self)
      · exact .inr (.inl h4)
      · exact .inr (.inr (List.mem_cons_of_mem _ h4))

theorem ChL_full (I : Inv o G E) {c : Nat → Nat → Bool} {D : Int} (g : Gh o G c D) {u : Nat} : ∀ {k x a b v : Nat} {L : List Nat} {p : Nat}, a ≠ u → b ≠ u → ChL G k x a b v L → p ∈ L → (c p u = true ↔ c v u = true)
  | 0, _, _, _, _, _, _, _, _, ⟨_, h⟩, hp => by rw [h] at hp; cases hp
  | k + 1, x, a, b, v, _, p, ha, hb, ⟨j, L', h1, h2, h3⟩, hp => by
    subst h3
    have hxj : c x u = true ↔ c j u = true := ⟨fun h => g.l2 _ _ _ _ h ha (I.lo' h1).2.2.1, fun h => g.l2 _ _ _ _ h ha (I.lo' h1).2.2.2.1⟩
    have hjv : c j u = true ↔ c v u = true := by
      cases k with
      | zero => rw [h2.1]
      | succ k =>
        have h2' := h2
        obtain ⟨_, _, _, _, h4⟩ := h2'
        exact ChL_full I g hb ha h2 (by rw [h4]; exact List.mem_cons_self)
    rcases List.mem_cons.1 hp with rfl | hp
    · exact hxj.trans hjv
    · exact ChL_full I g hb ha h2 hp
end

theorem mu_of {o : Ord} {s t u : Nat} (hs : s < 3) (ht : t < 3) (hu : u < 3) (h1 : s ≠ t) (h2 : s ≠ u) (h3 : t ≠ u) : mu o u = o.m s t := by
  unfold mu
  have hs' : s = 0 ∨ s = 1 ∨ s = 2 := by omega
  have ht' : t = 0 ∨ t = 1 ∨ t = 2 := by omega
  have hu' : u = 0 ∨ u = 1 ∨ u = 2 := by omega
  rcases hs' with rfl | rfl | rfl <;> rcases ht' with rfl | rfl | rfl <;> rcases hu' with rfl | rfl | rfl <;> simp at h1 h2 h3 ⊢ <;> exact o.m_comm _ _

theorem ed_link {G : List Node} {z y t i r : Nat} (hz : z < G.length) (hy : y < G.length) (hzy : z ≠ y) (n1 : tod G z t = none) (n2 : tod G y t = none) :
    ed (link G z y t) i r = ed G i r + (if i = z then (if r = t then 1 else 0) else 0) + (if i = y then (if r = t then 1 else 0) else 0) := by
  unfold ed
  rw [tod_link hz hy hzy]
  by_cases hr : r = t
  · subst hr
    by_cases h1 : i = z
    · subst h1
      rw [n1]; simp [hzy]
    · by_cases h2 : i = y
      · subst h2
        rw [n2]; simp [h1]
      · simp [h1, h2]
  · simp [hr]

theorem dg_link {G : List Node} {z y t i : Nat} (hz : z < G.length) (hy : y < G.length) (hzy : z ≠ y) (ht : t < 3) (n1 : tod G z t = none) (n2 : tod G y t = none) :
    dg (link G z y t) i = dg G i + (if i = z then 1 else 0) + (if i = y then 1 else 0) := by
  unfold dg
  rw [ed_link hz hy hzy n1 n2, ed_link hz hy hzy n1 n2, ed_link hz hy hzy n1 n2]
  have ht' : t = 0 ∨ t = 1 ∨ t = 2 := by omega
  by_cases h1 : i = z <;> by_cases h2 : i = y <;> rcases ht' with rfl | rfl | rfl <;> simp [h1, h2] <;> omega

/-- A new tile over a side. -/
theorem Gh.sprout {o : Ord} {G : List Node} {c : Nat → Nat → Bool} {D : Int} (g : Gh o G c D) {x s : Nat} (w : Word) (hx : x < G.length) (hs : s < 3) (hn : tod G x s = none) : Gh o (link (G ++ [Hy.fresh w]) x G.length s) c (D + 2) := by
  have hx0 : x < (G ++ [Hy.fresh w]).length := by simp; omega
  have hy0 : G.length < (G ++ [Hy.fresh w]).length := by simp
  have hxy : x ≠ G.length := by omega
  have n1 : tod (G ++ [Hy.fresh w]) x s = none := by rw [tod_fresh]; exact hn
  have n2 : ∀ r, tod (G ++ [Hy.fresh w]) G.length r = none := fun r => by
    rw [tod_fresh]
    cases h : tod G G.length r with
    | none => rfl
    | some j => have := tod_lt h; omega
  have hcy : ∀ u, c G.length u = false := fun u => by
    cases h : c G.length u with
    | false => rfl
    | true => have := g.lt h; omega
  have hdg : ∀ i, dg (link (G ++ [Hy.fresh w]) x G.length s) i = dg G i + (if i = x then 1 else 0) + (if i = G.length then 1 else 0) := fun i => by
    rw [dg_link hx0 hy0 hxy hs n1 (n2 s)]
    congr 2
    unfold dg ed
    simp only [tod_fresh]
  have hlen : (link (G ++ [Hy.fresh w]) x G.length s).length = G.length + 1 := by rw [length_link]; simp
  have hd0 : dg G G.length = 0 := by
    unfold dg ed
    have : ∀ r, tod G G.length r = none := fun r => by have := n2 r; rw [tod_fresh] at this; exact this
    simp [this]
  refine ⟨?_, ?_, g.l0, fun i u r hc hr hru => ?_, fun i u r j hc hru hj => ?_⟩
  · rw [hlen]
    unfold sum
    rw [sum_congr (g := fun i => kap o G c i + (if i = x then -27720 else 0)) (fun i hi => ?_), sum_add, g.s1, sum_one, if_pos hx]
    · unfold kap
      rw [hdg, hd0, if_neg (by omega), if_pos rfl, hcy, hcy, hcy]
      simp [bi]
    · unfold kap
      rw [hdg, if_neg (show ¬ i = G.length by omega)]
      by_cases h : i = x
      · rw [if_pos h, if_pos h]; omega
      · rw [if_neg h, if_neg h]; omega
  · rw [hlen]
    unfold sum
    rw [sum_congr (g := fun i => (dg G i - fc c i) + (if i = x then 1 else 0)) (fun i hi => ?_), sum_add, g.s2, sum_one, if_pos hx]
    · rw [hdg, hd0, if_neg (by omega), if_pos rfl]
      unfold fc
      rw [hcy, hcy, hcy]
      simp [bi]
      omega
    · rw [hdg, if_neg (show ¬ i = G.length by omega)]; omega
  · have h1 := g.l1 i u r hc hr hru
    rw [tod_link hx0 hy0 hxy]
    by_cases h2 : r = s ∧ i = x
    · rw [if_pos h2]; simp
    · rw [if_neg h2]
      by_cases h3 : r = s ∧ i = G.length
      · rw [if_pos h3]; simp
      · rw [if_neg h3, tod_fresh]; exact h1
  · have hu := (g.l0 i u hc).1
    rw [tod_link hx0 hy0 hxy] at hj
    by_cases h2 : r = s ∧ i = x
    · obtain ⟨rfl, rfl⟩ := h2
      exact absurd hn (g.l1 i u r hc hs hru)
    · rw [if_neg h2] at hj
      by_cases h3 : r = s ∧ i = G.length
      · have := g.lt hc; omega
      · rw [if_neg h3, tod_fresh] at hj; exact g.l2 i u r j hc hru hj

/-- A corner is closed. -/
theorem Gh.close {o : Ord} {G : List Node} {E : Nat → Prop} (I : Inv o G E) {c : Nat → Nat → Bool} {D : Int} (g : Gh o G c D) {x y z s t v k : Nat} (hz : z < G.length) (hy : y < G.length) (hs : s < 3) (ht : t < 3) (hst : s ≠ t) (hm : o.m s t = k + 2) (hm12 : o.m s t ≤ 12)
    (n1 : tod G z t = none) (n2 : tod G y t = none) (hA : Dch G (k + 2) y s t v) (hB : Dch G (k + 1) z s t v) (b1 : dnb G v s = false) (b2 : dnb G v t = false) :
    ∃ c', Gh o (link G z y t) c' (D + 2 - 2 * ((k + 2 : Nat) : Int)) := by
  obtain ⟨u, hu, hsu, htu⟩ : ∃ u, u < 3 ∧ s ≠ u ∧ t ≠ u := ⟨3 - s - t, by omega, by omega, by omega⟩
  have hmu : mu o u = k + 2 := by rw [mu_of hs ht hu hst hsu htu, hm]
  obtain ⟨LA, hLA⟩ := ChL_of hA
  obtain ⟨LB, hLB⟩ := ChL_of hB
  have hlA := Dch_len I hA
  have hlB := Dch_len I hB
  have hzy : z ≠ y := by rintro rfl; omega
  have hyA : y ∈ LA := by obtain ⟨_, _, _, _, h⟩ := hLA; rw [h]; exact List.mem_cons_self
  have hzB : z ∈ LB := by obtain ⟨_, _, _, _, h⟩ := hLB; rw [h]; exact List.mem_cons_self
  -- none of the corner was full
  have hcy : c y u = false := by
    cases h : c y u with
    | false => rfl
    | true => exact absurd n2 (g.l1 y u t h ht htu)
  have hcv : c v u = false := by
    cases h : c v u with
    | false => rfl
    | true => rw [(ChL_full I g hsu htu hLA hyA).2 h] at hcy; cases hcy
  have hcA : ∀ p ∈ LA, c p u = false := fun p hp => by
    cases h : c p u with
    | false => rfl
    | true => rw [(ChL_full I g hsu htu hLA hp).1 h] at hcv; cases hcv
  have hcB : ∀ p ∈ LB, c p u = false := fun p hp => by
    cases h : c p u with
    | false => rfl
    | true => rw [(ChL_full I g hsu htu hLB hp).1 h] at hcv; cases hcv
  have hlenA := ChL_len hLA
  have hlenB := ChL_len hLB
  have turn2 : ∀ n, (turnAt n s t = s ∧ turnAt n t s = t) ∨ (turnAt n s t = t ∧ turnAt n t s = s) := fun n => by
    unfold turnAt
    by_cases h : n % 2 = 0
    · rw [if_pos h, if_pos h]; exact .inl ⟨rfl, rfl⟩
    · rw [if_neg h, if_neg h]; exact .inr ⟨rfl, rfl⟩
  -- the tiles of the corner are different
  have hdis : ∀ p, p ∈ LA → p ∈ LB → False := fun p hpA hpB => by
    obtain ⟨n, hn1, hn2⟩ := ChL_mem hLA hpA
    obtain ⟨n', hn3, hn4⟩ := ChL_mem hLB hpB
    have e1 := Dch_len I hn2
    have e2 := Dch_len I hn4
    have e3 : n = n' + 1 := by omega
    subst e3
    rw [turnAt_succ, turnAt_succ] at hn2
    have hdown : dnb G p (turnAt n' s t) = true := by
      obtain ⟨q, hq⟩ : ∃ q, k + 1 - n' = q + 1 := ⟨k - n', by omega⟩
      rw [hq] at hn4
      obtain ⟨j, h1, _⟩ := hn4
      exact (I.lo' h1).2.1
    have : dnb G p (turnAt n' s t) = false := by
      rcases turn2 n' with ⟨e4, e5⟩ | ⟨e4, e5⟩
      · rw [e4, e5] at hn2
        rw [e4]
        exact I.notdown hst b1 b2 (by omega) hn2
      · rw [e4, e5] at hn2
        rw [e4]
        exact I.notdown hst.symm b2 b1 (by rw [o.m_comm]; omega) hn2
    rw [this] at hdown; cases hdown
  have hvA : v ∉ LA := fun h => by
    obtain ⟨n, hn1, hn2⟩ := ChL_mem hLA h
    have := Dch_len I hn2
    omega
  have hvB : v ∉ LB := fun h => by
    obtain ⟨n, hn1, hn2⟩ := ChL_mem hLB h
    have := Dch_len I hn2
    omega
  obtain ⟨C, hC⟩ : ∃ C, C = v :: (LA ++ LB) := ⟨_, rfl⟩
  have memC : ∀ {p}, p ∈ C ↔ p = v ∨ p ∈ LA ∨ p ∈ LB := fun {p} => by rw [hC, List.mem_cons, List.mem_append]
  have hnd : C.Nodup := by
    rw [hC]
    refine List.nodup_cons.2 ⟨fun h => (List.mem_append.1 h).elim hvA hvB, List.nodup_append.2 ⟨ChL_nodup I hLA, ChL_nodup I hLB, fun a ha b hb hab => hdis a ha (hab ▸ hb)⟩⟩
  have hCl : C.length = k + 2 + (k + 2) := by rw [hC, List.length_cons, List.length_append, hlenA, hlenB]; omega
  have hvl : v < G.length := Dch_lt I hy hA
  have hClt : ∀ p ∈ C, p < G.length := fun p hp => by
    rcases memC.1 hp with rfl | hp | hp
    · exact hvl
    · exact ChL_lt I hLA hp
    · exact ChL_lt I hLB hp
  have hcC : ∀ p ∈ C, c p u = false := fun p hp => by
    rcases memC.1 hp with rfl | hp | hp
    · exact hcv
    · exact hcA p hp
    · exact hcB p hp
  have hlen : (link G z y t).length = G.length := length_link _ _ _ _
  have hdg := fun i => dg_link (i := i) hz hy hzy ht n1 n2
  have hT := fun i r => tod_link (t := t) (i := i) (r := r) hz hy hzy
  have hT' : ∀ {i r j}, tod G i r = some j → tod (link G z y t) i r = some j := fun {i r j} h => by
    rw [hT, if_neg (by rintro ⟨rfl, rfl⟩; rw [n1] at h; cases h), if_neg (by rintro ⟨rfl, rfl⟩; rw [n2] at h; cases h)]; exact h
  have hT'' : ∀ {i r}, tod G i r ≠ none → tod (link G z y t) i r ≠ none := fun {i r} h => by
    cases hh : tod G i r with
    | none => exact absurd hh h
    | some j => rw [hT' hh]; simp
  have st : ∀ r, r < 3 → r ≠ u → r = s ∨ r = t := fun r _ _ => by omega
  have hst1 := (ChL_last I hLA)
  have hst2 := (ChL_last I hLB)
  rw [turnAt_succ] at hst1
  refine ⟨fun i r => c i r || (decide (r = u) && decide (i ∈ C)), ?_, ?_, fun i r h => ?_, fun i r q h hq hqr => ?_, fun i r q j h hqr hj => ?_⟩
  · -- the curvatures
    rw [hlen]
    have hpart : part o u * ((k + 2 + (k + 2) : Nat) : Int) = 55440 := by
      unfold part
      rw [hmu]
      have hk : k + 2 ≤ 12 := by omega
      have : k = 0 ∨ k = 1 ∨ k = 2 ∨ k = 3 ∨ k = 4 ∨ k = 5 ∨ k = 6 ∨ k = 7 ∨ k = 8 ∨ k = 9 ∨ k = 10 := by omega
      rcases this with rfl | rfl | rfl | rfl | rfl | rfl | rfl | rfl | rfl | rfl | rfl <;> decide
    have key : ∀ i, i < G.length → kap o (link G z y t) (fun i r => c i r || (decide (r = u) && decide (i ∈ C))) i = (kap o G c i + ((if i = z then -27720 else 0) + (if i = y then -27720 else 0))) + (if i ∈ C then part o u else 0) := fun i _ => by
      unfold kap
      rw [hdg]
      have hz' : 27720 * (dg G i + (if i = z then (1 : Int) else 0) + (if i = y then 1 else 0)) = 27720 * dg G i - (if i = z then -27720 else 0) - (if i = y then -27720 else 0) := by
        by_cases h1 : i = z <;> by_cases h2 : i = y <;> simp [h1, h2] <;> omega
      rw [hz']
      have hu' : u = 0 ∨ u = 1 ∨ u = 2 := by omega
      by_cases hiC : i ∈ C
      · have hc0 := hcC i hiC
        rcases hu' with rfl | rfl | rfl <;> simp [hiC, hc0, bi] <;> omega
      · simp [hiC]
        omega
    rw [sum_congr key, sum_add, sum_add, sum_add, g.s1, sum_one, sum_one, if_pos hz, if_pos hy, sum_mem _ C _ hnd hClt, hCl, hpart]
    omega
  · rw [hlen]
    have key : ∀ i, i < G.length → dg (link G z y t) i - fc (fun i r => c i r || (decide (r = u) && decide (i ∈ C))) i = ((dg G i - fc c i) + ((if i = z then 1 else 0) + (if i = y then 1 else 0))) + (if i ∈ C then -1 else 0) := fun i _ => by
      rw [hdg]
      unfold fc
      have hu' : u = 0 ∨ u = 1 ∨ u = 2 := by omega
      by_cases hiC : i ∈ C
      · have hc0 := hcC i hiC
        rcases hu' with rfl | rfl | rfl <;> simp [hiC, hc0, bi] <;> omega
      · simp [hiC]
        omega
    rw [sum_congr key, sum_add, sum_add, sum_add, g.s2, sum_one, sum_one, if_pos hz, if_pos hy, sum_mem _ C _ hnd hClt, hCl]
    omega
  · simp only [Bool.or_eq_true, Bool.and_eq_true, decide_eq_true_eq] at h
    rcases h with h | ⟨rfl, h⟩
    · exact g.l0 i r h
    · exact ⟨hu, by omega⟩
  · simp only [Bool.or_eq_true, Bool.and_eq_true, decide_eq_true_eq] at h
    rcases h with h | ⟨rfl, h⟩
    · exact hT'' (g.l1 i r q h hq hqr)
    · rcases memC.1 h with rfl | hp | hp
      · -- the bottom
        obtain ⟨j1, e1, _⟩ := hst1
        obtain ⟨j2, e2, _⟩ := hst2
        rcases st q hq hqr with rfl | rfl <;> rcases turn2 k with ⟨t1, t2⟩ | ⟨t1, t2⟩
        · rw [t1] at e2; rw [hT' e2]; simp
        · rw [t2] at e1; rw [hT' e1]; simp
        · rw [t2] at e1; rw [hT' e1]; simp
        · rw [t1] at e2; rw [hT' e2]; simp
      · rcases ChL_known I hLA hp with ⟨h1, h2⟩ | ⟨rfl, h1⟩
        · rcases st q hq hqr with rfl | rfl
          · exact hT'' h1
          · exact hT'' h2
        · rcases st q hq hqr with rfl | rfl
          · exact hT'' h1
          · rw [hT, if_neg (by rintro ⟨_, e⟩; exact hzy e.symm), if_pos ⟨rfl, rfl⟩]; simp
      · rcases ChL_known I hLB hp with ⟨h1, h2⟩ | ⟨rfl, h1⟩
        · rcases st q hq hqr with rfl | rfl
          · exact hT'' h1
          · exact hT'' h2
        · rcases st q hq hqr with rfl | rfl
          · exact hT'' h1
          · rw [hT, if_pos ⟨rfl, rfl⟩]; simp
  · simp only [Bool.or_eq_true, Bool.and_eq_true, decide_eq_true_eq] at h ⊢
    rw [hT] at hj
    rcases h with h | ⟨rfl, h⟩
    · left
      by_cases c1 : q = t ∧ i = z
      · obtain ⟨rfl, rfl⟩ := c1
        exact absurd n1 (g.l1 i r q h ht hqr)
      · rw [if_neg c1] at hj
        by_cases c2 : q = t ∧ i = y
        · obtain ⟨rfl, rfl⟩ := c2
          exact absurd n2 (g.l1 i r q h ht hqr)
        · rw [if_neg c2] at hj; exact g.l2 i r q j h hqr hj
    · right
      refine ⟨rfl, ?_⟩
      by_cases c1 : q = t ∧ i = z
      · rw [if_pos c1] at hj; cases hj
        exact memC.2 (.inr (.inl hyA))
      · rw [if_neg c1] at hj
        by_cases c2 : q = t ∧ i = y
        · rw [if_pos c2] at hj; cases hj
          exact memC.2 (.inr (.inr hzB))
        · rw [if_neg c2] at hj
          have hq3 := (I.sym hj).1
          rcases memC.1 h with rfl | hp | hp
          · obtain ⟨j1, e1, m1⟩ := hst1
            obtain ⟨j2, e2, m2⟩ := hst2
            rcases st q hq3 hqr with rfl | rfl <;> rcases turn2 k with ⟨t1, t2⟩ | ⟨t1, t2⟩
            · rw [t1] at e2; cases hj.symm.trans e2; exact memC.2 (.inr (.inr m2))
            · rw [t2] at e1; cases hj.symm.trans e1; exact memC.2 (.inr (.inl m1))
            · rw [t2] at e1; cases hj.symm.trans e1; exact memC.2 (.inr (.inl m1))
            · rw [t1] at e2; cases hj.symm.trans e2; exact memC.2 (.inr (.inr m2))
          · rcases ChL_next I hLA hp (st q hq3 hqr) hj with ⟨rfl, rfl⟩ | h4 | h4
            · exact absurd ⟨rfl, rfl⟩ c2
            · exact memC.2 (.inl h4)
            · exact memC.2 (.inr (.inl h4))
          · rcases ChL_next I hLB hp (st q hq3 hqr) hj with ⟨rfl, rfl⟩ | h4 | h4
            · exact absurd ⟨rfl, rfl⟩ c1
            · exact memC.2 (.inl h4)
            · exact memC.2 (.inr (.inr h4))

/-- Another word changes nothing. -/
theorem Gh.word {o : Ord} {G : List Node} {c : Nat → Nat → Bool} {D : Int} (g : Gh o G c D) (y : Nat) (w : Word) : Gh o (G.modify y (setWord w)) c D := by
  have ht : ∀ i r, tod (G.modify y (setWord w)) i r = tod G i r := fun i r => tod_word
  have hd : ∀ i, dg (G.modify y (setWord w)) i = dg G i := fun i => by unfold dg ed; simp only [ht]
  refine ⟨?_, ?_, g.l0, fun i u s hc hs hsu => by rw [ht]; exact g.l1 i u s hc hs hsu, fun i u s j hc hsu hj => by rw [ht] at hj; exact g.l2 i u s j hc hsu hj⟩
  · rw [List.length_modify, ← g.s1]
    exact sum_congr fun i _ => by unfold kap; rw [hd]
  · rw [List.length_modify, ← g.s2]
    exact sum_congr fun i _ => by rw [hd]

end Hy

/- Plain Lean, no program: a step of the growing graph keeps what holds of it, and always ends. -/
namespace Hy
set_option linter.unusedSimpArgs false
set_option linter.unusedVariables false

/-- The same steps with another bound of words. -/
def cornerL (lim : Nat) (o : Ord) (f : List Node → Nat → Nat → Option (List Node × Nat)) (x s y : Nat) (G : List Node) (t : Nat) : Option (List Node) :=
  if t = s ∨ o.m s t = 0 then some G else
  match lowest G (o.m s t - 1) x t s with
  | none => none
  | some none => some G
  | some (some v) =>
    match climb f (o.m s t - 1) G v (if o.m s t % 2 = 0 then s else t) (if o.m s t % 2 = 0 then t else s) with
    | none => none
    | some (G', z) =>
      if z = y then none else
      match (link G' z y t)[z]?, (link G' z y t)[y]? with
      | some nz, some ny => if lim ≤ nz.word.length ∨ nz.word.length + 1 ≠ ny.word.length then none else some (if less (nz.word ++ letter t) ny.word then (link G' z y t).modify y (setWord (nz.word ++ letter t)) else link G' z y t)
      | _, _ => none

def cornersL (lim : Nat) (o : Ord) (f : List Node → Nat → Nat → Option (List Node × Nat)) (x s y : Nat) : Nat → List Node → Option (List Node)
  | 0, G => some G
  | r + 1, G => match cornerL lim o f x s y G (3 - (r + 1)) with | none => none | some G' => cornersL lim o f x s y r G'

def stepL (lim : Nat) (o : Ord) : Nat → List Node → Nat → Nat → Option (List Node × Nat)
  | 0, _, _, _ => none
  | fuel + 1, G, x, s =>
    match G[x]? with
    | none => none
    | some n =>
      match n.to s with
      | some y => some (G, y)
      | none => if lim ≤ n.word.length then none else match cornersL lim o (stepL lim o fuel) x s G.length 3 (sprout G n x s) with | none => none | some G' => some (G', G.length)

def walkL (lim : Nat) (o : Ord) (fuel : Nat) : List Node → Nat → List UInt8 → Option (List Node × Nat)
  | G, x, [] => some (G, x)
  | G, x, c :: w => match stepL lim o fuel G x c.toNat with | none => none | some (G', x') => walkL lim o fuel G' x' w

/-- What a corner comes to, case by case. -/
theorem cornerL_cases {lim : Nat} {o : Ord} {f : List Node → Nat → Nat → Option (List Node × Nat)} {x s y t : Nat} {G G1 : List Node} (hc : cornerL lim o f x s y G t = some G1) :
    (t = s ∧ G1 = G) ∨ (t ≠ s ∧ o.m s t = 0 ∧ G1 = G) ∨ (∃ m, t ≠ s ∧ o.m s t = m + 1 ∧ lowest G m x t s = some none ∧ G1 = G) ∨
    (∃ m v G' z nz ny, t ≠ s ∧ o.m s t = m + 1 ∧ lowest G m x t s = some (some v) ∧ climb f m G v (if (m + 1) % 2 = 0 then s else t) (if (m + 1) % 2 = 0 then t else s) = some (G', z) ∧ z ≠ y ∧
      (link G' z y t)[z]? = some nz ∧ (link G' z y t)[y]? = some ny ∧ nz.word.length < lim ∧ nz.word.length + 1 = ny.word.length ∧
      G1 = if less (nz.word ++ letter t) ny.word then (link G' z y t).modify y (setWord (nz.word ++ letter t)) else link G' z y t) := by
  unfold cornerL at hc
  by_cases h1 : t = s
  · rw [if_pos (.inl h1)] at hc
    exact .inl ⟨h1, by cases hc; rfl⟩
  by_cases h2 : o.m s t = 0
  · rw [if_pos (.inr h2)] at hc
    exact .inr (.inl ⟨h1, h2, by cases hc; rfl⟩)
  rw [if_neg (by rintro (h | h); exact h1 h; exact h2 h)] at hc
  obtain ⟨m, hm⟩ : ∃ m, o.m s t = m + 1 := ⟨o.m s t - 1, by omega⟩
  rw [hm, Nat.add_sub_cancel] at hc
  cases hl : lowest G m x t s with
  | none => rw [hl] at hc; cases hc
  | some r =>
    rw [hl] at hc
    cases r with
    | none => exact .inr (.inr (.inl ⟨m, h1, hm, hl, by cases hc; rfl⟩))
    | some v =>
      simp only at hc
      cases hcl : climb f m G v (if (m + 1) % 2 = 0 then s else t) (if (m + 1) % 2 = 0 then t else s) with
      | none => rw [hcl] at hc; cases hc
      | some p =>
        obtain ⟨G', z⟩ := p
        rw [hcl] at hc
        simp only at hc
        by_cases hz : z = y
        · rw [if_pos hz] at hc; cases hc
        rw [if_neg hz] at hc
        cases hnz : (link G' z y t)[z]? with
        | none => rw [hnz] at hc; cases hc
        | some nz =>
          cases hny : (link G' z y t)[y]? with
          | none => rw [hnz, hny] at hc; cases hc
          | some ny =>
            rw [hnz, hny] at hc
            simp only at hc
            by_cases hlen : lim ≤ nz.word.length ∨ nz.word.length + 1 ≠ ny.word.length
            · rw [if_pos hlen] at hc; cases hc
            · rw [if_neg hlen] at hc
              exact .inr (.inr (.inr ⟨m, v, G', z, nz, ny, h1, hm, hl, hcl, hz, hnz, hny, by omega, by omega, by cases hc; rfl⟩))

theorem cornersL_succ {lim : Nat} {o : Ord} {f : List Node → Nat → Nat → Option (List Node × Nat)} {x s y r : Nat} {G Gc : List Node} (h : cornersL lim o f x s y (r + 1) G = some Gc) :
    ∃ G1, cornerL lim o f x s y G (3 - (r + 1)) = some G1 ∧ cornersL lim o f x s y r G1 = some Gc := by
  unfold cornersL at h
  cases hc : cornerL lim o f x s y G (3 - (r + 1)) with
  | none => rw [hc] at h; cases h
  | some G1 => rw [hc] at h; exact ⟨G1, rfl, h⟩

theorem climb_imp {f f' : List Node → Nat → Nat → Option (List Node × Nat)} (hf : ∀ G x s p, f G x s = some p → f' G x s = some p) : ∀ {k : Nat} {G : List Node} {z l l' : Nat} {p : List Node × Nat}, climb f k G z l l' = some p → climb f' k G z l l' = some p
  | 0, _, _, _, _, _, h => h
  | k + 1, G, z, l, l', (G'', z''), h => by
    obtain ⟨G', z', h1, h2⟩ := climb_succ h
    unfold climb
    rw [hf _ _ _ _ h1]
    exact climb_imp hf h2

theorem corner_of_L {o : Ord} {f f' : List Node → Nat → Nat → Option (List Node × Nat)} (hf : ∀ G x s p, f G x s = some p → f' G x s = some p) {x s y t : Nat} {G G1 : List Node} (hc : cornerL 1000 o f x s y G t = some G1) : corner o f' x s y G t = some G1 := by
  rcases cornerL_cases hc with ⟨h1, h2⟩ | ⟨h1, h2, h3⟩ | ⟨m, h1, h2, h3, h4⟩ | ⟨m, v, G', z, nz, ny, h1, h2, h3, h4, h5, h6, h7, h8, h9, h10⟩
  · unfold corner; rw [if_pos (.inl h1), h2]
  · unfold corner; rw [if_pos (.inr h2), h3]
  · unfold corner
    rw [if_neg (by rintro (h | h); exact h1 h; omega), h2, Nat.add_sub_cancel, h3, h4]
  · unfold corner
    rw [if_neg (by rintro (h | h); exact h1 h; omega), h2, Nat.add_sub_cancel, h3]
    simp only
    rw [climb_imp hf h4]
    simp only
    rw [if_neg h5, h6, h7]
    simp only
    rw [if_neg (by omega), h10]

theorem corners_of_L {o : Ord} {f f' : List Node → Nat → Nat → Option (List Node × Nat)} (hf : ∀ G x s p, f G x s = some p → f' G x s = some p) {x s y : Nat} : ∀ {r : Nat} {G Gc : List Node}, cornersL 1000 o f x s y r G = some Gc → corners o f' x s y r G = some Gc
  | 0, _, _, h => h
  | r + 1, G, Gc, h => by
    obtain ⟨G1, h1, h2⟩ := cornersL_succ h
    unfold corners
    rw [corner_of_L hf h1]
    exact corners_of_L hf h2

theorem step_of_L (o : Ord) : ∀ fuel G x s p, stepL 1000 o fuel G x s = some p → step o fuel G x s = some p
  | 0, _, _, _, _, h => by cases h
  | fuel + 1, G, x, s, p, h => by
    unfold stepL at h
    unfold step
    cases hn : G[x]? with
    | none => rw [hn] at h; cases h
    | some n =>
      rw [hn] at h
      simp only at h ⊢
      cases ht : n.to s with
      | some y => rw [ht] at h; exact h
      | none =>
        rw [ht] at h
        simp only at h ⊢
        by_cases hl : 1000 ≤ n.word.length
        · rw [if_pos hl] at h; cases h
        · rw [if_neg hl] at h ⊢
          cases hc : cornersL 1000 o (stepL 1000 o fuel) x s G.length 3 (sprout G n x s) with
          | none => rw [hc] at h; cases h
          | some G' =>
            rw [hc] at h
            rw [corners_of_L (step_of_L o fuel) hc]
            exact h

theorem walk_of_L (o : Ord) (fuel : Nat) : ∀ w G x p, walkL 1000 o fuel G x w = some p → walk o fuel G x w = some p
  | [], _, _, _, h => h
  | c :: w, G, x, p, h => by
    unfold walkL at h
    unfold walk
    cases hs : stepL 1000 o fuel G x c.toNat with
    | none => rw [hs] at h; cases h
    | some q =>
      obtain ⟨G', x'⟩ := q
      rw [hs] at h
      rw [step_of_L o fuel _ _ _ _ hs]
      exact walk_of_L o fuel w G' x' p h

/-- A graph has grown; tiles of more than b letters have not. -/
structure Ext (G G' : List Node) (b : Nat) : Prop where
  len : G.length ≤ G'.length
  hwd : ∀ {i}, i < G.length → wd G' i = wd G i
  hdnb : ∀ {i s}, i < G.length → dnb G' i s = dnb G i s
  htod : ∀ {i s j}, tod G i s = some j → tod G' i s = some j
  same : ∀ {i s}, i < G.length → b < (wd G i).length → tod G' i s = tod G i s
  new : ∀ {i}, G.length ≤ i → (wd G' i).length ≤ b + 1

theorem Ext.refl (G : List Node) (b : Nat) : Ext G G b := ⟨Nat.le_refl _, fun _ => rfl, fun _ => rfl, id, fun _ _ => rfl, fun h => by rw [wd_out h]; exact Nat.zero_le _⟩
theorem Ext.weak {G G' : List Node} {b b' : Nat} (h : Ext G G' b) (hb : b ≤ b') : Ext G G' b' := ⟨h.len, h.hwd, h.hdnb, h.htod, fun h1 h2 => h.same h1 (by omega), fun h1 => by have := h.new h1; omega⟩
theorem Ext.trans {G G' G'' : List Node} {b : Nat} (h : Ext G G' b) (h' : Ext G' G'' b) : Ext G G'' b :=
  ⟨Nat.le_trans h.len h'.len, fun h1 => by rw [h'.hwd (by have := h.len; omega), h.hwd h1], fun h1 => by rw [h'.hdnb (by have := h.len; omega), h.hdnb h1], fun h1 => h'.htod (h.htod h1),
   fun h1 h2 => by rw [h'.same (by have := h.len; omega) (by rw [h.hwd h1]; exact h2), h.same h1 h2],
   fun {i} h1 => by
    by_cases hi : i < G'.length
    · rw [h'.hwd hi]; exact h.new h1
    · exact h'.new (by omega)⟩

theorem Ext.hdn {G G' : List Node} {b i a j : Nat} (h : Ext G G' b) (hd : Hy.dn G i a = some j) : Hy.dn G' i a = some j := by
  obtain ⟨h1, h2⟩ := dn_some.1 hd
  exact dn_some.2 ⟨by rw [h.hdnb (dnb_lt h1)]; exact h1, h.htod h2⟩
theorem Ext.dch {G G' : List Node} {b k x p q v : Nat} (h : Ext G G' b) (hd : Dch G k x p q v) : Dch G' k x p q v := Dch_mono (fun _ _ _ => h.hdn) hd
theorem Ext.dnback {o : Ord} {E : Nat → Prop} {G G' : List Node} {b i a j : Nat} (I : Inv o G E) (h : Ext G G' b) (hi : i < G.length) (hd : Hy.dn G' i a = some j) : Hy.dn G i a = some j ∧ j < G.length := by
  obtain ⟨h1, h2⟩ := dn_some.1 hd
  rw [h.hdnb hi] at h1
  obtain ⟨j', h3⟩ := I.lo_of h1
  have h4 := (dn_some.1 h3).2
  cases h2.symm.trans (h.htod h4)
  exact ⟨h3, tod_lt (I.sym h4).2⟩
theorem Ext.dchback {o : Ord} {E : Nat → Prop} {G G' : List Node} {b k x p q v : Nat} (I : Inv o G E) (h : Ext G G' b) (hx : x < G.length) (hd : Dch G' k x p q v) : Dch G k x p q v :=
  (Dch_back (· < G.length) (fun _ _ _ hi hd => h.dnback I hi hd) hx hd).1

/-- What a step does to tiles of less than B letters. -/
def StepOk (o : Ord) (E : Nat → Prop) (B : Nat) (f : List Node → Nat → Nat → Option (List Node × Nat)) : Prop :=
  ∀ G z l, Inv o G E → z < G.length → l < 3 → (wd G z).length < B → (∀ i, E i → i < G.length ∧ (wd G z).length + 1 < (wd G i).length) →
    ∃ G' z', f G z l = some (G', z') ∧ Inv o G' E ∧ Ext G G' (wd G z).length ∧ tod G' z l = some z' ∧ ∀ c D, Gh o G c D → ∃ c' D', Gh o G' c' D' ∧ D' ≤ D + 2

theorem climb_ok {o : Ord} {E : Nat → Prop} {B : Nat} {f : List Node → Nat → Nat → Option (List Node × Nat)} (hf : StepOk o E B f) {v : Nat} : ∀ r k G z l l', Inv o G E → (∀ i, E i → i < G.length ∧ B < (wd G i).length) →
    v < G.length → z < G.length → l < 3 → l' < 3 → l ≠ l' → dnb G v l = false → dnb G v l' = false → Dch G k z l' l v → k + r < o.m l l' → (wd G v).length + k + r ≤ B →
    ∃ G' z', climb f r G z l l' = some (G', z') ∧ Inv o G' E ∧ Ext G G' (B - 1) ∧ z' < G'.length ∧ Dch G' (k + r) z' (if r % 2 = 0 then l' else l) (if r % 2 = 0 then l else l') v ∧ ∀ c D, Gh o G c D → ∃ c' D', Gh o G' c' D' ∧ D' ≤ D + 2 * (r : Int) := by
  intro r
  induction r with
  | zero => intro k G z l l' I _ _ hz _ _ _ _ _ hd _ _; exact ⟨G, z, rfl, I, Ext.refl _ _, hz, hd, fun c D g => ⟨c, D, g, by omega⟩⟩
  | succ r ih =>
    intro k G z l l' I hE hv hz hl hl' hll b1 b2 hd hm hB
    have hlen := Dch_len I hd
    obtain ⟨G1, z1, h1, I1, X1, t1, gg1⟩ := hf G z l I hz hl (by omega) (fun i h => ⟨(hE i h).1, by have := (hE i h).2; omega⟩)
    have hdn := I.notdown hll b1 b2 (by omega) hd
    obtain ⟨h2, _⟩ := I1.rise t1 (by rw [X1.hdnb hz]; exact hdn)
    have hz1 : z1 < G1.length := tod_lt (I1.sym t1).2
    have hle := X1.len
    obtain ⟨G', z', h3, I', X', hz', hd', gg'⟩ := ih (k + 1) G1 z1 l' l I1 (fun i h => ⟨by have := (hE i h).1; omega, by rw [X1.hwd (hE i h).1]; exact (hE i h).2⟩)
      (by omega) hz1 hl' hl hll.symm (by rw [X1.hdnb hv]; exact b2) (by rw [X1.hdnb hv]; exact b1) ⟨z, h2, X1.dch hd⟩ (by rw [o.m_comm]; omega) (by rw [X1.hwd hv]; omega)
    refine ⟨G', z', ?_, I', (X1.weak (by omega)).trans X', hz', ?_, fun c D g => ?_⟩
    · unfold climb; rw [h1]; exact h3
    · rw [show k + (r + 1) = k + 1 + r by omega]
      by_cases h : r % 2 = 0
      · rw [if_pos h, if_pos h] at hd'; rw [if_neg (by omega), if_neg (by omega)]; exact hd'
      · rw [if_neg h, if_neg h] at hd'; rw [if_pos (by omega), if_pos (by omega)]; exact hd'
    · obtain ⟨c1, D1, g1, l1⟩ := gg1 c D g
      obtain ⟨c2, D2, g2, l2⟩ := gg' c1 D1 g1
      exact ⟨c2, D2, g2, by omega⟩

theorem less_irrefl : ∀ (a : Word), less a a = false
  | [] => rfl
  | x :: a => by simp [less, less_irrefl a]
theorem less_asymm : ∀ {a b : Word}, less a b = true → less b a = false
  | [], [], h => by cases h
  | [], _ :: _, _ => rfl
  | _ :: _, [], h => by cases h
  | x :: a, y :: b, h => by
    unfold less at h ⊢
    simp only [Bool.or_eq_true, Bool.and_eq_true, decide_eq_true_eq, beq_iff_eq, Bool.or_eq_false_iff, Bool.and_eq_false_iff, decide_eq_false_iff_not] at h ⊢
    rcases h with h | ⟨rfl, h⟩
    · refine ⟨fun h' => ?_, .inl ?_⟩
      · simp only [UInt8.lt_iff_toNat_lt] at h h'; omega
      · rw [beq_eq_false_iff_ne]; rintro rfl; simp only [UInt8.lt_iff_toNat_lt] at h; omega
    · exact ⟨fun h' => by simp only [UInt8.lt_iff_toNat_lt] at h'; omega, .inr (less_asymm h)⟩

/-- The state while the corners of the new tile y over the side s of x are looked at; those below T are done. H is the graph ahead of it. -/
structure LI (o : Ord) (E : Nat → Prop) (H G : List Node) (x s T : Nat) : Prop where
  inv : Inv o G (fun i => E i ∨ i = H.length)
  ext : Ext H G (wd H x).length
  xy : tod G H.length s = some x
  dy : dnb G H.length s = true
  yl : H.length < G.length
  rest : ∀ r, T ≤ r → r ≠ s → tod G H.length r = none
  up : ∀ r j, tod G H.length r = some j → dnb G H.length r = true
  done : ∀ r v, r < T → r ≠ s → 0 < o.m s r → Dch H (o.m s r - 1) x r s v → dnb G H.length r = true
  nf1 : ∀ r j, dnb G H.length r = true → tod G H.length r = some j → less (wd G j ++ letter r) (wd G H.length) = false
  nf2 : ∃ r j, dnb G H.length r = true ∧ tod G H.length r = some j ∧ wd G H.length = wd G j ++ letter r
  gh : ∀ c D, Gh o H c D → ∃ c' D', Gh o G c' D' ∧ D' ≤ D + 2

theorem letter_lt {t : Nat} (ht : t < 3) {c : UInt8} (h : c ∈ letter t) : c.toNat < 3 := by
  unfold letter at h
  rw [List.mem_singleton] at h
  subst h
  simp only [UInt8.toNat_ofNat']
  omega

theorem corner_ok {o : Ord} (F : Fine o) {E : Nat → Prop} {f : List Node → Nat → Nat → Option (List Node × Nat)} {H G : List Node} {x s T lim : Nat} (L : LI o E H G x s T) (IH : Inv o H E) (hT : T < 3)
    (hx : x < H.length) (hE : ∀ i, E i → i < H.length ∧ (wd H x).length + 1 < (wd H i).length) (hf : StepOk o (fun i => E i ∨ i = H.length) (wd H x).length f) (hlim : (wd H x).length < lim) :
    ∃ G', cornerL lim o f x s H.length G T = some G' ∧ LI o E H G' x s (T + 1) := by
  have I := L.inv
  obtain ⟨hs, hxs⟩ := I.sym L.xy
  have hxG : x < G.length := by have := L.ext.len; omega
  have hwx : wd G x = wd H x := L.ext.hwd hx
  have hwxl : (wd G x).length = (wd H x).length := by rw [hwx]
  have hyd : dn G H.length s = some x := dn_some.2 ⟨L.dy, L.xy⟩
  have hly : (wd G H.length).length = (wd G x).length + 1 := (I.lo' hyd).2.2.2.2
  have keep : (∀ r v, r = T → r ≠ s → 0 < o.m s r → Dch H (o.m s r - 1) x r s v → dnb G H.length r = true) → LI o E H G x s (T + 1) := fun h =>
    ⟨L.inv, L.ext, L.xy, L.dy, L.yl, fun r hr => L.rest r (by omega), L.up, fun r v hr => if hrT : r = T then h r v hrT else L.done r v (by omega), L.nf1, L.nf2, L.gh⟩
  unfold cornerL
  by_cases hc : T = s ∨ o.m s T = 0
  · rw [if_pos hc]
    exact ⟨G, rfl, keep fun r v hr h1 h2 => by subst hr; rcases hc with h | h; exact absurd h h1; omega⟩
  rw [if_neg hc]
  have hTs : T ≠ s := fun h => hc (.inl h)
  obtain ⟨k, hk⟩ : ∃ k, o.m s T = k + 2 := ⟨o.m s T - 2, by have := F.one s T hs hT hTs.symm; have : o.m s T ≠ 0 := fun h => hc (.inr h); omega⟩
  rcases lowest_dch (k := o.m s T - 1) (a := T) (b := s) I hxG with ⟨v, h1, h2⟩ | ⟨h1, h2⟩
  case inr =>
    rw [h1]
    exact ⟨G, rfl, keep fun r v hr h3 h4 h5 => absurd (L.ext.dch h5) (by subst hr; exact h2 v)⟩
  rw [h1]
  simp only
  rw [show o.m s T - 1 = k + 1 by omega] at h2 ⊢
  -- x is done
  have hxE : ¬ (E x ∨ x = H.length) := by
    rintro (h | h)
    · have := (hE x h).2; omega
    · omega
  have hyk : Dch G (k + 1 + 1) H.length s T v := ⟨x, hyd, h2⟩
  -- v is the bottom of the corner
  have hbot : ∀ c, c = s ∨ c = T → dnb G v c = false := by
    intro c hc'
    cases hd : dnb G v c with
    | false => rfl
    | true =>
      obtain ⟨v2, j, e1, e2⟩ := Dch_more I hyk hc' hd
      cases hyd.symm.trans e1
      have := I.full (b := s) hxE hTs hT hs (by rw [o.m_comm]; omega) (by rw [o.m_comm, hk]; exact e2)
      obtain ⟨j, e3⟩ := I.lo_of this
      have e4 := (I.lo' e3).2.2
      cases hxs.symm.trans e4.1
      omega
  have hv : v < G.length := Dch_lt I hxG h2
  have hlv := Dch_len I h2
  have hEG : ∀ i, E i ∨ i = H.length → i < G.length ∧ (wd H x).length < (wd G i).length := by
    rintro i (h | rfl)
    · refine ⟨by have := (hE i h).1; have := L.ext.len; omega, ?_⟩
      rw [L.ext.hwd (hE i h).1]; have := (hE i h).2; omega
    · exact ⟨L.yl, by omega⟩
  -- up on the other side
  obtain ⟨G1, z, h3, I1, X1, hz, hd1, ggc⟩ : ∃ G1 z, climb f (k + 1) G v (if o.m s T % 2 = 0 then s else T) (if o.m s T % 2 = 0 then T else s) = some (G1, z) ∧ Inv o G1 (fun i => E i ∨ i = H.length) ∧
      Ext G G1 ((wd H x).length - 1) ∧ z < G1.length ∧ Dch G1 (k + 1) z s T v ∧ ∀ c D, Gh o G c D → ∃ c' D', Gh o G1 c' D' ∧ D' ≤ D + 2 * ((k + 1 : Nat) : Int) := by
    by_cases hp : o.m s T % 2 = 0
    · rw [if_pos hp, if_pos hp]
      obtain ⟨G1, z, e1, e2, e3, e4, e5, e6⟩ := climb_ok hf (v := v) (k + 1) 0 G v s T I hEG hv hv hs hT hTs.symm (hbot s (.inl rfl)) (hbot T (.inr rfl)) rfl (by omega) (by omega)
      rw [if_neg (by omega), if_neg (by omega), Nat.zero_add] at e5
      exact ⟨G1, z, e1, e2, e3, e4, e5, e6⟩
    · rw [if_neg hp, if_neg hp]
      obtain ⟨G1, z, e1, e2, e3, e4, e5, e6⟩ := climb_ok hf (v := v) (k + 1) 0 G v T s I hEG hv hv hT hs hTs (hbot T (.inr rfl)) (hbot s (.inl rfl)) rfl (by rw [o.m_comm]; omega) (by omega)
      rw [if_pos (by omega), if_pos (by omega), Nat.zero_add] at e5
      exact ⟨G1, z, e1, e2, e3, e4, e5, e6⟩
  rw [h3]
  simp only
  have hyG1 : H.length < G1.length := by have := X1.len; have := L.yl; omega
  have hty : ∀ r, tod G1 H.length r = tod G H.length r := fun r => X1.same L.yl (by omega)
  have hdy : ∀ r, dnb G1 H.length r = dnb G H.length r := fun r => X1.hdnb L.yl
  have hwy : wd G1 H.length = wd G H.length := X1.hwd L.yl
  have hwx1 : wd G1 x = wd H x := by rw [X1.hwd hxG, hwx]
  have hwv : wd G1 v = wd G v := X1.hwd hv
  have hlz := Dch_len I1 hd1
  rw [hwv] at hlz
  have hzlen : (wd G1 z).length = (wd H x).length := by rw [← hwx]; omega
  have hzy : z ≠ H.length := by rintro rfl; rw [hwy, hly, hwx] at hzlen; omega
  have hv1 : ∀ c, c = s ∨ c = T → dnb G1 v c = false := fun c h => by rw [X1.hdnb hv]; exact hbot c h
  have hyt : tod G1 H.length T = none := by rw [hty]; exact L.rest T (Nat.le_refl _) hTs
  have hxy1 : tod G1 H.length s = some x := by rw [hty]; exact L.xy
  have hyd1 : dn G1 H.length s = some x := X1.hdn hyd
  have h2' := X1.dch h2
  have hyk1 : Dch G1 (k + 1 + 1) H.length s T v := ⟨x, hyd1, h2'⟩
  have hzt : tod G1 z T = none := by
    cases hw : tod G1 z T with
    | none => rfl
    | some w =>
      have e1 := I1.notdown (l := T) (l' := s) hTs (hv1 T (.inr rfl)) (hv1 s (.inl rfl)) (by rw [o.m_comm]; omega) hd1
      obtain ⟨e2, e3⟩ := I1.rise hw e1
      have hwy' : w ≠ H.length := by rintro rfl; have := (I1.lo' e2).2.2.1; rw [hyt] at this; cases this
      have hwE : ¬ (E w ∨ w = H.length) := by
        rintro (h | h)
        · have := (hE w h).2
          rw [X1.hwd (by have := (hE w h).1; have := L.ext.len; omega), L.ext.hwd (hE w h).1] at e3
          omega
        · exact hwy' h
      have e4 : Dch G1 (k + 1 + 1) w T s v := ⟨z, e2, hd1⟩
      have e5 := I1.full (b := s) hwE hTs hT hs (by rw [o.m_comm]; omega) (by rw [o.m_comm, hk]; exact e4)
      obtain ⟨_, v', e6, e7, _⟩ := I1.top e5 (I1.lo' e2).2.1 hTs.symm
      rw [hk] at e6 e7
      cases Dch_fun e7 e4
      obtain ⟨x', e8, e9⟩ := e6
      cases Dch_inj I1 e9 h2'
      have e10 := (I1.lo' e8).2.2.2.1
      have e11 := (I1.sym hxy1).2
      rw [e10] at e11
      exact absurd (Option.some.inj e11) hwy'
  have honly : ∀ r, r ≠ s → dnb G1 H.length r = false := by
    intro r hr
    cases hd : dnb G1 H.length r with
    | false => rfl
    | true =>
      obtain ⟨j, e1⟩ := I1.lo_of hd
      have hrT : r ≠ T := by rintro rfl; have := (I1.lo' e1).2.2.1; rw [hyt] at this; cases this
      exact (I1.downs.no F (s := r) (t := s) (u := T) ⟨(I1.lo' e1).1, hs, hT, hr, hTs.symm, hrT⟩ e1 hyd1 (by omega) (by rw [hk]; exact Dch_Ch hyk1)).elim
  have hup1 : ∀ r j, tod G1 H.length r = some j → dnb G1 H.length r = true := fun r j h => by rw [hty] at h; rw [hdy]; exact L.up r j h
  have hEqv : Eqv o (wd G1 z ++ letter T) (wd G1 H.length) := by
    have e1 := (Dch_eqv I1 hd1).right (letter T)
    have e2 := Dch_eqv I1 hyk1
    have e3 := braid (o := o) hs hT hTs.symm (by omega)
    rw [hk] at e3
    refine e1.symm.trans (Eqv.trans ?_ e2)
    rw [List.append_assoc]
    exact (e3.left (wd G1 v)).symm
  obtain ⟨I2, hmono⟩ := I1.link hz hyG1 hT (.inr rfl) (by rw [hwy, hly, hwx, hzlen]) hzt hyt hup1 hEqv (fun r hr hd => by
    have hrs : r = s := by
      by_cases h : r = s
      · exact h
      · rw [honly r h] at hd; cases hd
    subst hrs
    have hmono0 : ∀ i a j, dn G1 i a = some j → dn (link G1 z H.length T) i a = some j := fun i a j h => by
      obtain ⟨h4, h5⟩ := dn_some.1 h
      refine dn_some.2 ⟨?_, ?_⟩
      · rw [dnb_link hyG1]
        by_cases hh : i = H.length ∧ a = T
        · rw [if_pos hh]
        · rw [if_neg hh]; exact h4
      · rw [tod_link hz hyG1 hzy, if_neg (by rintro ⟨rfl, rfl⟩; rw [hzt] at h5; cases h5), if_neg (by rintro ⟨rfl, rfl⟩; rw [hyt] at h5; cases h5)]; exact h5
    have hvy : v ≠ H.length := by rintro rfl; omega
    refine ⟨by omega, v, ?_, ?_, ?_, ?_⟩
    · rw [hk]; exact Dch_mono hmono0 hyk1
    · rw [hk]
      refine ⟨z, dn_some.2 ⟨by rw [dnb_link hyG1, if_pos ⟨rfl, rfl⟩], ?_⟩, Dch_mono hmono0 hd1⟩
      rw [tod_link hz hyG1 hzy, if_neg (fun e => hzy e.2.symm), if_pos ⟨rfl, rfl⟩]
    · rw [dnb_link hyG1, if_neg (fun e => hvy e.1)]; exact hv1 r (.inl rfl)
    · rw [dnb_link hyG1, if_neg (fun e => hvy e.1)]; exact hv1 T (.inr rfl))
  rw [if_neg hzy]
  have hzl2 : z < (link G1 z H.length T).length := by rw [length_link]; exact hz
  have hyl2 : H.length < (link G1 z H.length T).length := by rw [length_link]; exact hyG1
  rw [List.getElem?_eq_getElem hzl2, List.getElem?_eq_getElem hyl2]
  simp only
  have hw1 : ((link G1 z H.length T)[z]).word = wd G1 z := by rw [← wd_some (List.getElem?_eq_getElem hzl2), wd_link]
  have hw2 : ((link G1 z H.length T)[H.length]).word = wd G1 H.length := by rw [← wd_some (List.getElem?_eq_getElem hyl2), wd_link]
  rw [hw1, hw2, if_neg (by rw [hwy, hly, hwx, hzlen]; omega)]
  have hT2 : ∀ r, tod (link G1 z H.length T) H.length r = if r = T then some z else tod G1 H.length r := fun r => by
    rw [tod_link hz hyG1 hzy, if_neg (fun e => hzy e.2.symm)]
    by_cases h : r = T
    · rw [if_pos ⟨h, rfl⟩, if_pos h]
    · rw [if_neg (fun e => h e.1), if_neg h]
  have hD2 : ∀ r, dnb (link G1 z H.length T) H.length r = if r = T then true else dnb G1 H.length r := fun r => by
    rw [dnb_link hyG1]
    by_cases h : r = T
    · rw [if_pos ⟨rfl, h⟩, if_pos h]
    · rw [if_neg (fun e => h e.2), if_neg h]
  have hup2 : ∀ r j, tod (link G1 z H.length T) H.length r = some j → dnb (link G1 z H.length T) H.length r = true := fun r j h => by
    rw [hT2] at h
    rw [hD2]
    by_cases hr : r = T
    · rw [if_pos hr]
    · rw [if_neg hr] at h ⊢; exact hup1 r j h
  have X : Ext H G1 (wd H x).length := L.ext.trans (X1.weak (by omega))
  have X2 : Ext H (link G1 z H.length T) (wd H x).length := by
    refine ⟨by rw [length_link]; exact X.len, fun h => by rw [wd_link]; exact X.hwd h, fun {i r} h => by rw [dnb_link hyG1, if_neg (by rintro ⟨e, _⟩; omega)]; exact X.hdnb h, fun {i r j} h => ?_, fun {i r} g1 g2 => ?_, fun h => by rw [wd_link]; exact X.new h⟩
    · have := X.htod h
      rw [tod_link hz hyG1 hzy, if_neg (by rintro ⟨rfl, rfl⟩; rw [hzt] at this; cases this), if_neg (by rintro ⟨rfl, rfl⟩; rw [hyt] at this; cases this)]; exact this
    · rw [tod_link hz hyG1 hzy, if_neg (by rintro ⟨rfl, rfl⟩; rw [X.hwd g1] at hzlen; omega), if_neg (by rintro ⟨_, rfl⟩; omega)]; exact X.same g1 g2
  have hys2 : tod (link G1 z H.length T) H.length s = some x := by rw [hT2, if_neg hTs.symm]; exact hxy1
  have hds2 : dnb (link G1 z H.length T) H.length s = true := by rw [hD2, if_neg hTs.symm, hdy]; exact L.dy
  have hrest2 : ∀ r, T + 1 ≤ r → r ≠ s → tod (link G1 z H.length T) H.length r = none := fun r hr h => by rw [hT2, if_neg (by omega), hty]; exact L.rest r (by omega) h
  have hdone2 : ∀ r v, r < T + 1 → r ≠ s → 0 < o.m s r → Dch H (o.m s r - 1) x r s v → dnb (link G1 z H.length T) H.length r = true := fun r v hr h1 h2 h3 => by
    rw [hD2]
    by_cases h : r = T
    · rw [if_pos h]
    · rw [if_neg h, hdy]; exact L.done r v (by omega) h1 h2 h3
  -- the word ahead was that over s
  have hold : wd G1 H.length = wd H x ++ letter s := by
    obtain ⟨r, j, e1, e2, e3⟩ := L.nf2
    have hr : r = s := by
      by_cases h : r = s
      · exact h
      · have := honly r h; rw [hdy, e1] at this; cases this
    subst hr
    cases L.xy.symm.trans e2
    rw [hwy, e3, hwx]
  have hwn : ∀ c ∈ wd G1 z ++ letter T, c.toNat < 3 := fun c hc => by
    rcases List.mem_append.1 hc with h | h
    · exact I1.lets z c h
    · exact letter_lt hT h
  have h0 : H.length ≠ 0 := by omega
  have hxy0 : x ≠ H.length := by omega
  have hgh : ∀ c D, Gh o H c D → ∃ c' D', Gh o (link G1 z H.length T) c' D' ∧ D' ≤ D + 2 := fun c D g => by
    obtain ⟨c1, D1, g1, l1⟩ := L.gh c D g
    obtain ⟨c2, D2, g2, l2⟩ := ggc c1 D1 g1
    obtain ⟨c3, g3⟩ := Gh.close (x := x) I1 g2 hz hyG1 hs hT hTs.symm hk (F.le s T) hzt hyt hyk1 hd1 (hv1 s (.inl rfl)) (hv1 T (.inr rfl))
    exact ⟨c3, _, g3, by omega⟩
  by_cases hless : less (wd G1 z ++ letter T) (wd G1 H.length) = true
  · rw [if_pos hless]
    have hW : ∀ i, i ≠ H.length → wd ((link G1 z H.length T).modify H.length (setWord (wd G1 z ++ letter T))) i = wd G1 i := fun i h => by rw [wd_word hyl2, if_neg h, wd_link]
    have hWy : wd ((link G1 z H.length T).modify H.length (setWord (wd G1 z ++ letter T))) H.length = wd G1 z ++ letter T := by rw [wd_word hyl2, if_pos rfl]
    have hlw : (wd G1 z ++ letter T).length = (wd G1 H.length).length := by rw [hwy, hly, hwx]; simp [letter, hzlen]
    refine ⟨_, rfl, I2.word hyl2 (.inr rfl) h0 hup2 (by rw [wd_link]; exact hEqv) (by rw [wd_link]; exact hlw) hwn, ?_, by rw [tod_word]; exact hys2, by rw [dnb_word]; exact hds2, by rw [List.length_modify]; exact hyl2,
      fun r hr h => by rw [tod_word]; exact hrest2 r hr h, fun r j h => by rw [tod_word] at h; rw [dnb_word]; exact hup2 r j h, fun r v a1 a2 a3 a4 => by rw [dnb_word]; exact hdone2 r v a1 a2 a3 a4, fun r j a1 a2 => ?_, ⟨T, z, ?_, ?_, ?_⟩, fun c D g => by obtain ⟨c1, D1, g1, l1⟩ := hgh c D g; exact ⟨c1, D1, g1.word _ _, l1⟩⟩
    · refine ⟨by rw [List.length_modify]; exact X2.len, fun {i} h => by rw [hW i (by omega)]; exact X.hwd h, fun h => by rw [dnb_word]; exact X2.hdnb h, fun h => by rw [tod_word]; exact X2.htod h, fun h1 h2 => by rw [tod_word]; exact X2.same h1 h2, fun {i} h => ?_⟩
      by_cases hi : i = H.length
      · subst hi; rw [hWy, hlw]; exact X.new h
      · rw [hW i hi]; exact X.new h
    · rw [dnb_word] at a1
      rw [tod_word, hT2] at a2
      rw [hWy]
      by_cases hr : r = T
      · rw [if_pos hr] at a2; cases a2; rw [hW z hzy, hr]; exact less_irrefl _
      · rw [hD2, if_neg hr] at a1
        have hrs : r = s := by
          by_cases h : r = s
          · exact h
          · rw [honly r h] at a1; cases a1
        subst hrs
        rw [if_neg hr, hxy1] at a2; cases a2
        rw [hW x hxy0, hwx1, ← hold]; exact less_asymm hless
    · rw [dnb_word, hD2, if_pos rfl]
    · rw [tod_word, hT2, if_pos rfl]
    · rw [hWy, hW z hzy]
  · rw [if_neg hless]
    have hless' : less (wd G1 z ++ letter T) (wd G1 H.length) = false := by simpa using hless
    refine ⟨_, rfl, I2, X2, hys2, hds2, hyl2, hrest2, hup2, hdone2, fun r j a1 a2 => ?_, ⟨s, x, hds2, hys2, by rw [wd_link, wd_link, hwx1, hold]⟩, hgh⟩
    rw [wd_link, wd_link]
    rw [hT2] at a2
    by_cases hr : r = T
    · rw [if_pos hr] at a2; cases a2; rw [hr]; exact hless'
    · rw [hD2, if_neg hr] at a1
      rw [if_neg hr] at a2
      have hrs : r = s := by
        by_cases h : r = s
        · exact h
        · rw [honly r h] at a1; cases a1
      subst hrs
      rw [hxy1] at a2; cases a2
      rw [hwx1, ← hold]; exact less_irrefl _

theorem corners_ok {o : Ord} (F : Fine o) {E : Nat → Prop} {f : List Node → Nat → Nat → Option (List Node × Nat)} {H : List Node} {x s lim : Nat} (IH : Inv o H E)
    (hx : x < H.length) (hE : ∀ i, E i → i < H.length ∧ (wd H x).length + 1 < (wd H i).length) (hf : StepOk o (fun i => E i ∨ i = H.length) (wd H x).length f) (hlim : (wd H x).length < lim) :
    ∀ r, r ≤ 3 → ∀ G, LI o E H G x s (3 - r) → ∃ G', cornersL lim o f x s H.length r G = some G' ∧ LI o E H G' x s 3 := by
  intro r
  induction r with
  | zero => intro _ G L; exact ⟨G, rfl, L⟩
  | succ r ih =>
    intro hr G L
    obtain ⟨G1, h1, L1⟩ := corner_ok F L IH (by omega) hx hE hf hlim
    rw [show 3 - (r + 1) + 1 = 3 - r by omega] at L1
    obtain ⟨G', h2, L'⟩ := ih (by omega) G1 L1
    exact ⟨G', by unfold cornersL; rw [h1]; exact h2, L'⟩

/-- A step of the graph. -/
theorem step_ok {o : Ord} (F : Fine o) {lim : Nat} : ∀ fuel E, StepOk o E (min lim fuel) (stepL lim o fuel) := by
  intro fuel
  induction fuel with
  | zero => intro E G x s _ _ _ h; omega
  | succ fuel ih =>
    intro E G x s I hx hs hB hE
    have hn : G[x]? = some G[x] := List.getElem?_eq_getElem hx
    have htx : tod G x s = G[x].to s := by unfold tod; rw [hn]
    have hwx : wd G x = G[x].word := by unfold wd; rw [hn]
    unfold stepL
    rw [hn]
    simp only
    rw [← htx]
    cases ht : tod G x s with
    | some y => exact ⟨G, y, rfl, I, Ext.refl _ _, ht, fun c D g => ⟨c, D, g, by omega⟩⟩
    | none =>
      simp only
      rw [← hwx, if_neg (by omega)]
      -- the new tile
      have hlt : ∀ c ∈ wd G x ++ letter s, c.toNat < 3 := fun c hc => by
        rcases List.mem_append.1 hc with h | h
        · exact I.lets x c h
        · exact letter_lt hs h
      have I0 := I.fresh hlt
      have hx0 : x < (G ++ [fresh (wd G x ++ letter s)]).length := by simp; omega
      have hy0 : G.length < (G ++ [fresh (wd G x ++ letter s)]).length := by simp
      have hty0 : ∀ r, tod (G ++ [fresh (wd G x ++ letter s)]) G.length r = none := fun r => by
        rw [tod_fresh]
        cases h : tod G G.length r with
        | none => rfl
        | some j => have := tod_lt h; omega
      have hdy0 : ∀ r, dnb (G ++ [fresh (wd G x ++ letter s)]) G.length r = false := fun r => by
        rw [dnb_fresh]
        cases h : dnb G G.length r with
        | false => rfl
        | true => have := dnb_lt h; omega
      have hwx0 : wd (G ++ [fresh (wd G x ++ letter s)]) x = wd G x := by rw [wd_fresh, if_neg (by omega)]
      have hwy0 : wd (G ++ [fresh (wd G x ++ letter s)]) G.length = wd G x ++ letter s := by rw [wd_fresh, if_pos rfl]
      have hxy : x ≠ G.length := by omega
      obtain ⟨I1, _⟩ := I0.link (z := x) (y := G.length) (t := s) hx0 hy0 hs (.inr rfl) (by rw [hwy0, hwx0]; simp [letter]) (by rw [tod_fresh]; exact ht) (hty0 s) (fun r j h => by rw [hty0] at h; cases h)
        (by rw [hwy0, hwx0]; exact .refl _) (fun r _ h => by rw [hdy0] at h; cases h)
      have hsp : sprout G G[x] x s = link (G ++ [fresh (wd G x ++ letter s)]) x G.length s := by unfold sprout; rw [hwx]
      have hT := fun i r => tod_link (t := s) (i := i) (r := r) hx0 hy0 hxy
      have hD := fun i r => dnb_link (z := x) (t := s) (i := i) (r := r) hy0
      have L0 : LI o E G (sprout G G[x] x s) x s (3 - 3) := by
        rw [hsp]
        refine ⟨I1, ⟨by rw [length_link]; simp, fun {i} h => by rw [wd_link, wd_fresh, if_neg (by omega)], fun {i r} h => by rw [hD, if_neg (by rintro ⟨e, _⟩; omega), dnb_fresh], fun {i r j} h => ?_, fun {i r} h h1 => ?_, fun {i} h => ?_⟩, ?_, ?_, by rw [length_link]; exact hy0, fun r _ h => ?_, fun r j h => ?_, fun r v h => by omega, fun r j h h1 => ?_, ⟨s, x, ?_, ?_, ?_⟩, fun c D g => ⟨c, D + 2, g.sprout _ hx hs ht, Int.le_refl _⟩⟩
        · rw [hT, if_neg (by rintro ⟨rfl, rfl⟩; rw [ht] at h; cases h), if_neg (by rintro ⟨_, rfl⟩; have := tod_lt h; omega), tod_fresh]; exact h
        · rw [hT, if_neg (by rintro ⟨_, rfl⟩; omega), if_neg (by rintro ⟨_, rfl⟩; omega), tod_fresh]
        · rw [wd_link]
          by_cases hi : i = G.length
          · subst hi; rw [hwy0]; simp [letter]
          · rw [wd_fresh, if_neg hi, wd_out h]; exact Nat.zero_le _
        · rw [hT, if_neg (by rintro ⟨_, e⟩; exact hxy e.symm), if_pos ⟨rfl, rfl⟩]
        · rw [hD, if_pos ⟨rfl, rfl⟩]
        · rw [hT, if_neg (fun e => h e.1), if_neg (fun e => h e.1), hty0]
        · rw [hT] at h
          rw [hD]
          by_cases hr : r = s
          · rw [if_pos ⟨rfl, hr⟩]
          · rw [if_neg (fun e => hr e.1), if_neg (fun e => hr e.1), hty0] at h; cases h
        · by_cases hr : r = s
          · subst hr
            rw [hT, if_neg (by rintro ⟨_, e⟩; exact hxy e.symm), if_pos ⟨rfl, rfl⟩] at h1
            cases h1
            rw [wd_link, wd_link, hwx0, hwy0]; exact less_irrefl _
          · rw [hD, if_neg (fun e => hr e.2), hdy0] at h; cases h
        · rw [hD, if_pos ⟨rfl, rfl⟩]
        · rw [hT, if_neg (by rintro ⟨_, e⟩; exact hxy e.symm), if_pos ⟨rfl, rfl⟩]
        · rw [wd_link, wd_link, hwx0, hwy0]
      have hf : StepOk o (fun i => E i ∨ i = G.length) (wd G x).length (stepL lim o fuel) := fun G2 z l a1 a2 a3 a4 a5 => ih _ G2 z l a1 a2 a3 (by omega) a5
      obtain ⟨G', h1, L⟩ := corners_ok (lim := lim) F I hx hE hf (by omega) 3 (Nat.le_refl _) _ L0
      rw [h1]
      have hys := dn_some.2 ⟨L.dy, L.xy⟩
      refine ⟨G', G.length, rfl, ?_, L.ext, (L.inv.sym L.xy).2, L.gh⟩
      refine ⟨L.inv.pos, L.inv.root, L.inv.lets, L.inv.sym, L.inv.lo, L.inv.up, L.inv.snd, L.inv.top, fun {i a b v} hEi hab ha hb hm h => ?_, fun {i r j} hEi h2 h3 => ?_, fun {i} hEi hi h0 => ?_⟩
      · by_cases hi : i = G.length
        · subst hi
          obtain ⟨m, hm'⟩ : ∃ m, o.m a b = m + 1 := ⟨o.m a b - 1, by omega⟩
          by_cases has : a = s
          · subst has
            have h' := h
            rw [hm'] at h'
            obtain ⟨j, h2, h3⟩ := h'
            cases hys.symm.trans h2
            exact L.done b v hb hab.symm hm (by rw [hm', Nat.add_sub_cancel]; exact L.ext.dchback I hx h3)
          · by_cases hbs : b = s
            · rw [hbs]; exact L.dy
            · have h' := h
              rw [hm'] at h'
              obtain ⟨j, h2, _⟩ := h'
              exact (L.inv.downs.no F (s := s) (t := a) (u := b) ⟨hs, ha, hb, Ne.symm has, hab, Ne.symm hbs⟩ hys h2 hm (Dch_Ch h)).elim
        · exact L.inv.full (fun e => e.elim hEi hi) hab ha hb hm h
      · by_cases hi : i = G.length
        · subst hi; exact L.nf1 r j h2 h3
        · exact L.inv.nf1 (fun e => e.elim hEi hi) h2 h3
      · by_cases hi' : i = G.length
        · subst hi'; exact L.nf2
        · exact L.inv.nf2 (fun e => e.elim hEi hi') hi h0

/-- The graph of the first tile alone. -/
theorem inv_start (o : Ord) : Inv o start (fun _ => False) := by
  have ht : ∀ i r, tod start i r = none := fun i r => by
    unfold tod start
    cases i with
    | zero => rfl
    | succ i => simp
  have hd : ∀ i r, dnb start i r = false := fun i r => by
    unfold dnb start
    cases i with
    | zero => rfl
    | succ i => simp
  have hw : ∀ i, wd start i = [] := fun i => by
    unfold wd start
    cases i with
    | zero => rfl
    | succ i => simp
  refine ⟨by simp [start], hw 0, fun i c hc => ?_, fun h => ?_, fun h => ?_, fun h _ => ?_, fun h => ?_, fun h _ _ => ?_, fun {i a b v} _ _ _ _ hm h => ?_, fun _ h _ => ?_, fun _ h h0 => ?_⟩
  · rw [hw] at hc; cases hc
  · rw [ht] at h; cases h
  · rw [hd] at h; cases h
  · rw [ht] at h; cases h
  · rw [ht] at h; cases h
  · rw [hd] at h; cases h
  · obtain ⟨m, hm'⟩ : ∃ m, o.m a b = m + 1 := ⟨o.m a b - 1, by omega⟩
    rw [hm'] at h
    obtain ⟨j, h1, _⟩ := h
    have := (dn_some.1 h1).1
    rw [hd] at this; cases this
  · rw [hd] at h; cases h
  · simp [start] at h; omega

end Hy
