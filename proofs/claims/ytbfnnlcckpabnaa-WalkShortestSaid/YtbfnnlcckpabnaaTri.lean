/- Plain Lean, no program: three mirrors of the hyperbolic plane: no tile has three sides that lead down. -/
import Derived.Test.YtbfnnlcckpabnaaPure
namespace Hy
set_option linter.unusedSimpArgs false
set_option linter.unusedVariables false

/-- A row of steps down, in turns over the sides a and b. -/
def Ch (dn : Nat → Nat → Option Nat) : Nat → Nat → Nat → Nat → Prop
  | 0, _, _, _ => True
  | k + 1, i, a, b => ∃ j, dn i a = some j ∧ Ch dn k j b a

theorem Ch_le {dn : Nat → Nat → Option Nat} : ∀ {k m i a b : Nat}, k ≤ m → Ch dn m i a b → Ch dn k i a b
  | 0, _, _, _, _, _, _ => trivial
  | k + 1, 0, _, _, _, h, _ => absurd h (by omega)
  | k + 1, m + 1, i, a, b, h, ⟨j, h1, h2⟩ => ⟨j, h1, Ch_le (Nat.le_of_succ_le_succ h) h2⟩

/-- What the tiles of a graph have below them. -/
structure Downs (o : Ord) (dn : Nat → Nat → Option Nat) (ln : Nat → Nat) : Prop where
  less : ∀ {i a j}, dn i a = some j → ln j < ln i
  top : ∀ {i a b j k}, a < 3 → b < 3 → a ≠ b → dn i a = some j → dn i b = some k → 0 < o.m a b ∧ Ch dn (o.m a b) i a b
  meet : ∀ {i a b j k}, a < 3 → b < 3 → a ≠ b → o.m a b = 2 → dn i a = some j → dn i b = some k → ∃ v, dn j b = some v ∧ dn k a = some v

/-- Three different mirrors. -/
structure Three (a b c : Nat) : Prop where
  pa : a < 3
  pb : b < 3
  pc : c < 3
  ab : a ≠ b
  bc : b ≠ c
  ac : a ≠ c

/-- Orders of a triangle of the hyperbolic plane, as far as it matters. -/
structure Fine (o : Ord) : Prop where
  le : ∀ a b, o.m a b ≤ 12
  ang : 27720 / o.m12 + 27720 / o.m02 + 27720 / o.m01 < 27720
  one : ∀ a b, a < 3 → b < 3 → a ≠ b → o.m a b ≠ 1
  two : ∀ a b c, Three a b c → o.m a b = 2 → ((o.m a c = 0 ∨ 4 ≤ o.m a c) ∧ (o.m b c = 0 ∨ 4 ≤ o.m b c)) ∨ (o.m a c = 3 ∧ (o.m b c = 0 ∨ 6 ≤ o.m b c)) ∨ (o.m b c = 3 ∧ (o.m a c = 0 ∨ 6 ≤ o.m a c))

theorem Ord.m_comm (o : Ord) (a b : Nat) : o.m a b = o.m b a := by unfold Ord.m; rw [Nat.add_comm]

section
variable {o : Ord} {dn : Nat → Nat → Option Nat} {ln : Nat → Nat}

theorem Downs.ch (D : Downs o dn ln) {i a b j k : Nat} (n : Nat) (hn : o.m a b = 0 ∨ n ≤ o.m a b) (ha : a < 3) (hb : b < 3) (hab : a ≠ b) (h1 : dn i a = some j) (h2 : dn i b = some k) : Ch dn n i a b := by
  obtain ⟨h3, h4⟩ := D.top ha hb hab h1 h2
  exact Ch_le (hn.elim (fun h => by omega) id) h4

/-- No order is 2. -/
theorem Downs.no3 (D : Downs o dn ln) (hm : ∀ a b, a < 3 → b < 3 → a ≠ b → o.m a b = 0 ∨ 3 ≤ o.m a b) :
    ∀ n x a b c xa xb xac, ln x ≤ n → Three a b c → dn x a = some xa → dn x b = some xb → dn xa c = some xac → False := by
  intro n
  induction n with
  | zero => intro x a b c xa xb xac hn _ h _ _; have := D.less h; omega
  | succ n ih =>
    intro x a b c xa xb xac hn t h1 h2 h3
    obtain ⟨y1, e1, y2, e2, y3, e3, _⟩ := D.ch 3 (hm a b t.pa t.pb t.ab) t.pa t.pb t.ab h1 h2
    cases h1.symm.trans e1
    exact ih xa b c a y2 xac y3 (by have := D.less h1; omega) ⟨t.pb, t.pc, t.pa, t.bc, t.ac.symm, t.ab.symm⟩ e2 h3 e3

/-- a and b commute, both orders with c are at least 4. -/
theorem Downs.no4 (D : Downs o dn ln) {a b c : Nat} (t : Three a b c) (h2 : o.m a b = 2) (hp : o.m a c = 0 ∨ 4 ≤ o.m a c) (hq : o.m b c = 0 ∨ 4 ≤ o.m b c) :
    ∀ n x xb xc xca, ln x ≤ n → dn x c = some xc → dn x b = some xb → dn xc a = some xca → False := by
  intro n
  induction n with
  | zero => intro x xb xc xca hn h _ _; have := D.less h; omega
  | succ n ih =>
    intro x xb xc xca hn k1 k2 k3
    obtain ⟨x1, e1, x2, e2, x3, e3, x4, e4, _⟩ := D.ch 4 (by rw [o.m_comm]; exact hq) t.pc t.pb t.bc.symm k1 k2
    cases k1.symm.trans e1
    obtain ⟨v1, f1, f2⟩ := D.meet t.pa t.pb t.ab h2 k3 e2
    obtain ⟨g1, g2, g3, g4, g5, g6, g7, g8, _⟩ := D.ch 4 (by rw [o.m_comm]; exact hp) t.pc t.pa t.ac.symm e3 f2
    cases e3.symm.trans g2
    obtain ⟨v2, l1, l2⟩ := D.meet t.pa t.pb t.ab h2 g4 e4
    exact ih g3 v2 g5 g7 (by have := D.less g4; have := D.less e3; have := D.less e2; have := D.less e1; omega) g6 l1 g8

/-- a and b commute, the order of a and c is 3. -/
theorem Downs.noG (D : Downs o dn ln) {a b c : Nat} (t : Three a b c) (h2 : o.m a b = 2) (hp : o.m a c = 3) (hq : o.m b c = 0 ∨ 6 ≤ o.m b c) :
    ∀ n z zb zc zbc zbca, ln z ≤ n → dn z b = some zb → dn z c = some zc → dn zb c = some zbc → dn zbc a = some zbca → False := by
  intro n
  induction n with
  | zero => intro z zb zc zbc zbca hn h _ _ _; have := D.less h; omega
  | succ n ih =>
    intro z zb zc zbc zbca hn k1 k2 k3 k4
    have hca : o.m c a = 3 := by rw [o.m_comm]; exact hp
    obtain ⟨z1, e1, z2, e2, z3, e3, z4, e4, z5, e5, z6, e6, _⟩ := D.ch 6 hq t.pb t.pc t.bc k1 k2
    cases k1.symm.trans e1
    cases k3.symm.trans e2
    obtain ⟨p, f1, f2⟩ := D.meet t.pa t.pb t.ab h2 k4 e3
    obtain ⟨q1, g1, z', g2, z'c, g3, _⟩ := D.ch 3 (by omega) t.pc t.pa t.ac.symm e4 f2
    cases e4.symm.trans g1
    obtain ⟨r1, l1, p1, l2, p2, l3, _⟩ := D.ch 3 (by omega) t.pa t.pc t.ac f2 e4
    cases f2.symm.trans l1
    obtain ⟨r, m1, m2⟩ := D.meet t.pa t.pb t.ab h2 g2 e5
    obtain ⟨r2, n1, n2, n3, n4, n5, _⟩ := D.ch 3 (by omega) t.pa t.pc t.ac m2 e6
    cases m2.symm.trans n1
    exact ih z' r z'c n2 n4 (by have := D.less g2; have := D.less e4; have := D.less e3; have := D.less e2; have := D.less e1; omega) m1 g3 n3 n5

theorem Downs.noD (D : Downs o dn ln) {a b c : Nat} (t : Three a b c) (h2 : o.m a b = 2) (hp : o.m a c = 3) (hq : o.m b c = 0 ∨ 6 ≤ o.m b c)
    {x xb xc xca : Nat} (k1 : dn x c = some xc) (k2 : dn x b = some xb) (k3 : dn xc a = some xca) : False := by
  have hca : o.m c a = 3 := by rw [o.m_comm]; exact hp
  obtain ⟨x1, e1, x2, e2, x3, e3, x4, e4, x5, e5, _⟩ := D.ch 5 (by rw [o.m_comm]; omega) t.pc t.pb t.bc.symm k1 k2
  cases k1.symm.trans e1
  obtain ⟨v, f1, f2⟩ := D.meet t.pa t.pb t.ab h2 k3 e2
  obtain ⟨q1, g1, z, g2, zc, g3, _⟩ := D.ch 3 (by omega) t.pc t.pa t.ac.symm e3 f2
  cases e3.symm.trans g1
  obtain ⟨e, m1, m2⟩ := D.meet t.pa t.pb t.ab h2 g2 e4
  obtain ⟨r2, n1, n2, n3, n4, n5, _⟩ := D.ch 3 (by omega) t.pa t.pc t.ac m2 e5
  cases m2.symm.trans n1
  exact D.noG t h2 hp hq _ z e zc n2 n4 (Nat.le_refl _) m1 g3 n3 n5

/-- No tile has three sides that lead down, not even a third one that a corner would ask for. -/
theorem Downs.no (D : Downs o dn ln) (F : Fine o) {y s t u ys yt : Nat} (T : Three s t u) (k1 : dn y s = some ys) (k2 : dn y t = some yt) (hm : 0 < o.m t u) (hc : Ch dn (o.m t u) y t u) : False := by
  have n1 := F.one _ _ T.pa T.pb T.ab
  have n2 := F.one _ _ T.pb T.pc T.bc
  have n3 := F.one _ _ T.pa T.pc T.ac
  have c1 := o.m_comm s t
  have c2 := o.m_comm t u
  have c3 := o.m_comm s u
  have p1 := (D.top T.pa T.pb T.ab k1 k2).1
  obtain ⟨y1, d1, y2, d2, _⟩ := Ch_le (k := 2) (by omega) hc
  cases k2.symm.trans d1
  by_cases a1 : o.m s t = 2
  · -- s and t commute
    obtain ⟨v, f1, f2⟩ := D.meet T.pa T.pb T.ab a1 k1 k2
    rcases F.two _ _ _ T a1 with ⟨q1, q2⟩ | ⟨q1, q2⟩ | ⟨q1, q2⟩
    · obtain ⟨z1, e1, z2, e2, z3, e3, _⟩ := Ch_le (k := 3) (by omega) hc
      cases k2.symm.trans e1
      cases d2.symm.trans e2
      obtain ⟨x1, g1, w, g2, w1, g3, w2, g4, _⟩ := D.ch 4 (by omega) T.pc T.pa T.ac.symm d2 f2
      cases d2.symm.trans g1
      obtain ⟨e, l1, l2⟩ := D.meet T.pa T.pb T.ab a1 g2 e3
      exact D.no4 T a1 q1 q2 _ w e w1 w2 (Nat.le_refl _) g3 l1 g4
    · obtain ⟨z1, e1, z2, e2, z3, e3, z4, e4, _⟩ := Ch_le (k := 4) (by omega) hc
      cases k2.symm.trans e1
      cases d2.symm.trans e2
      obtain ⟨x1, g1, w, g2, w1, g3, _⟩ := D.ch 3 (by omega) T.pc T.pa T.ac.symm d2 f2
      cases d2.symm.trans g1
      obtain ⟨e, l1, l2⟩ := D.meet T.pa T.pb T.ab a1 g2 e3
      obtain ⟨x2, r1, e5, r2, e6, r3, _⟩ := D.ch 3 (by omega) T.pa T.pc T.ac l2 e4
      cases l2.symm.trans r1
      exact D.noG T a1 q1 q2 _ w e w1 e5 e6 (Nat.le_refl _) l1 g3 r2 r3
    · obtain ⟨z1, e1, z2, e2, z3, e3, _⟩ := Ch_le (k := 3) (by omega) hc
      cases k2.symm.trans e1
      cases d2.symm.trans e2
      exact D.noD ⟨T.pb, T.pa, T.pc, T.ab.symm, T.ac, T.bc⟩ (by omega) q1 q2 d2 f2 e3
  by_cases a2 : o.m t u = 2
  · -- t and u commute
    have T' : Three t u s := ⟨T.pb, T.pc, T.pa, T.bc, T.ac.symm, T.ab.symm⟩
    obtain ⟨z1, e1, z2, e2, z3, e3, _⟩ := D.ch 3 (by omega) T.pb T.pa T.ab.symm k2 k1
    cases k2.symm.trans e1
    rcases F.two _ _ _ T' a2 with ⟨q1, q2⟩ | ⟨q1, q2⟩ | ⟨q1, q2⟩
    · exact D.no4 T' a2 q1 q2 _ yt y2 z2 z3 (Nat.le_refl _) e2 d2 e3
    · exact D.noD T' a2 q1 q2 e2 d2 e3
    · obtain ⟨x1, g1, w, g2, _⟩ := D.ch 2 (by omega) T.pa T.pc T.ac e2 d2
      cases e2.symm.trans g1
      exact D.noG ⟨T.pc, T.pb, T.pa, T.bc.symm, T.ab.symm, T.ac.symm⟩ (by omega) q1 q2 _ y yt ys z2 w (Nat.le_refl _) k2 k1 e2 g2
  by_cases a3 : o.m s u = 2
  · -- s and u commute
    have T' : Three u s t := ⟨T.pc, T.pa, T.pb, T.ac.symm, T.ab, T.bc.symm⟩
    rcases F.two _ _ _ T' (by omega) with ⟨q1, q2⟩ | ⟨q1, q2⟩ | ⟨q1, q2⟩
    · exact D.no4 T' (by omega) q1 q2 _ y ys yt y2 (Nat.le_refl _) k2 k1 d2
    · exact D.noD T' (by omega) q1 q2 k2 k1 d2
    · obtain ⟨z1, e1, z2, e2, z3, e3, _⟩ := Ch_le (k := 3) (by omega) hc
      cases k2.symm.trans e1
      cases d2.symm.trans e2
      obtain ⟨x1, g1, w, g2, w1, g3, _⟩ := D.ch 3 (by omega) T.pb T.pa T.ab.symm k2 k1
      cases k2.symm.trans g1
      obtain ⟨e, l1, l2⟩ := D.meet T.pa T.pc T.ac (by omega) g2 d2
      obtain ⟨x2, r1, e5, r2, e6, r3, _⟩ := D.ch 3 (by omega) T.pa T.pb T.ab l2 e3
      cases l2.symm.trans r1
      exact D.noG ⟨T.pa, T.pc, T.pb, T.ac, T.bc.symm, T.ab⟩ (by omega) q1 (by omega) _ w e w1 e5 e6 (Nat.le_refl _) l1 g3 r2 r3
  · refine D.no3 (fun a b ha hb hab => ?_) _ y t s u yt ys y2 (Nat.le_refl _) ⟨T.pb, T.pa, T.pc, T.ab.symm, T.ac, T.bc⟩ k2 k1 d2
    have h1 := F.one a b ha hb hab
    have h2 : o.m a b ≠ 2 := by
      obtain ⟨r1, r2, r3, r4, r5, r6⟩ := T
      rcases (show (a = s ∨ a = t ∨ a = u) ∧ (b = s ∨ b = t ∨ b = u) by omega) with ⟨rfl | rfl | rfl, rfl | rfl | rfl⟩
      all_goals first | exact absurd rfl hab | omega
    omega
end

end Hy
