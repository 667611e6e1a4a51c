/- Plain Lean: what an image says, read from its front; the order of walls and things. -/
import Derived.Test.YtbfnnlcckpabnaaGreatS3
import Derived.Test.YtbfnnlcckpabnaaGreatNf
namespace Go.Proofs.YtbfnnlcckpabnaaGreat
set_option linter.unusedSimpArgs false
set_option linter.unusedVariables false
open Go.RowKit
open Hy (Lets IsNF Eqv Le)

theorem len_V : ∀ k a b, (Hy.V k a b).length = k
  | 0, _, _ => rfl
  | k + 1, a, b => by
    show (Hy.letter a ++ Hy.V k b a).length = k + 1
    rw [List.length_append, len_V k b a]
    simp [Hy.letter]
    omega

theorem eqv_parity {o : Hy.Ord} {u v : List UInt8} (h : Eqv o u v) : u.length % 2 = v.length % 2 := by
  induction h with
  | refl w => rfl
  | symm _ ih => exact ih.symm
  | trans _ _ ih1 ih2 => exact ih1.trans ih2
  | two p q hs => simp [Hy.letter]; omega
  | turn p q ha hb hab hm => simp [len_V]; omega

/-- Over a side lies a tile of another length. -/
theorem near_ne {o : Hy.Ord} {t n : List UInt8} {m : Nat} (h : IsNF o (t ++ Hy.letter m) n) : n.length ≠ t.length := by
  have := eqv_parity h.eqv
  simp [Hy.letter] at this
  omega

theorem le_total' (a b : List UInt8) : Le a b ∨ Le b a := by
  rcases Nat.lt_trichotomy a.length b.length with h | h | h
  · exact .inl (.inl h)
  · cases hl : Hy.less b a with
    | false => exact .inl (.inr ⟨h, hl⟩)
    | true => exact .inr (.inr ⟨h.symm, Hy.less_asymm hl⟩)
  · exact .inr (.inl h)

theorem le_trans' {a b c : List UInt8} (h1 : Le a b) (h2 : Le b c) : Le a c := by
  rcases h1 with h1 | ⟨h1, h3⟩ <;> rcases h2 with h2 | ⟨h2, h4⟩
  · exact .inl (by omega)
  · exact .inl (by omega)
  · exact .inl (by omega)
  · exact .inr ⟨by omega, Hy.less_trans h3 h4⟩

theorem ahead_iff {a b : List UInt8} : aheadW a b = true ↔ ¬ Le b a := by
  rw [← aheadW_le]; simp

theorem ahead_irrefl (a : List UInt8) : aheadW a a = false := aheadW_le.2 (Le.refl a)
theorem ahead_trans {a b c : List UInt8} (h1 : aheadW a b = true) (h2 : aheadW b c = true) : aheadW a c = true := by
  rw [ahead_iff] at *
  intro h
  have h3 := (le_total' a b).resolve_right h1
  exact h2 (le_trans' h h3)
theorem ahead_total {a b : List UInt8} (h : a ≠ b) : aheadW a b = true ∨ aheadW b a = true := by
  rw [ahead_iff, ahead_iff]
  by_cases h1 : Le b a
  · exact .inr fun h2 => h (h2.antisymm h1)
  · exact .inl h1

theorem cmpB_less : ∀ {a b : List UInt8}, Hy.cmpB a b < 0 ↔ Hy.less a b = true
  | [], [] => by simp [Hy.cmpB, Hy.less]
  | [], _ :: _ => by simp [Hy.cmpB, Hy.less]
  | _ :: _, [] => by simp [Hy.cmpB, Hy.less]
  | x :: a, y :: b => by
    simp only [Hy.cmpB, Hy.less, Bool.or_eq_true, decide_eq_true_eq, Bool.and_eq_true, beq_iff_eq]
    by_cases h1 : x < y
    · simp [h1]
    · rw [if_neg h1]
      by_cases h2 : y < x
      · rw [if_pos h2]
        have h3 : x ≠ y := fun h => by subst h; exact h1 h2
        simp [h1, h3]
      · rw [if_neg h2, cmpB_less]
        have h3 : x = y := by
          have h1' : ¬ x.toNat < y.toNat := fun h => h1 (UInt8.lt_iff_toNat_lt.2 h)
          have h2' : ¬ y.toNat < x.toNat := fun h => h2 (UInt8.lt_iff_toNat_lt.2 h)
          exact UInt8.toNat_inj.1 (by omega)
        simp [h1, h3]

theorem cmpB_zero : ∀ {a b : List UInt8}, Hy.cmpB a b = 0 ↔ a = b
  | [], [] => by simp [Hy.cmpB]
  | [], _ :: _ => by simp [Hy.cmpB]
  | _ :: _, [] => by simp [Hy.cmpB]
  | x :: a, y :: b => by
    simp only [Hy.cmpB]
    by_cases h1 : x < y
    · have h3 : x ≠ y := fun h => by subst h; exact absurd h1 (by simp)
      simp [h1, h3]
    · rw [if_neg h1]
      by_cases h2 : y < x
      · rw [if_pos h2]
        have h3 : x ≠ y := fun h => by subst h; exact h1 h2
        simp [h3]
      · rw [if_neg h2, cmpB_zero]
        have h3 : x = y := by
          have h1' : ¬ x.toNat < y.toNat := fun h => h1 (UInt8.lt_iff_toNat_lt.2 h)
          have h2' : ¬ y.toNat < x.toNat := fun h => h2 (UInt8.lt_iff_toNat_lt.2 h)
          exact UInt8.toNat_inj.1 (by omega)
        simp [h3]

theorem cmpW_ahead {a b : List UInt8} : Hy.cmpW a b < 0 ↔ aheadW a b = true := by
  unfold Hy.cmpW aheadW
  by_cases h1 : a.length < b.length
  · rw [if_pos h1, if_neg (by omega)]; simp [h1]
  · rw [if_neg h1]
    by_cases h2 : b.length < a.length
    · rw [if_pos h2, if_neg (by omega)]; simp; omega
    · rw [if_neg h2, if_pos (by omega)]; exact cmpB_less

theorem cmpW_zero {a b : List UInt8} : Hy.cmpW a b = 0 ↔ a = b := by
  unfold Hy.cmpW
  by_cases h1 : a.length < b.length
  · rw [if_pos h1]
    have : a ≠ b := fun h => by subst h; omega
    simp [this]
  · rw [if_neg h1]
    by_cases h2 : b.length < a.length
    · rw [if_pos h2]
      have : a ≠ b := fun h => by subst h; omega
      simp [this]
    · rw [if_neg h2]; exact cmpB_zero

/-- One wall ahead of another one. -/
def before (x y : List UInt8 × Int) : Bool := wallAhead x.1 x.2 y.1 y.2

theorem before_iff {x y : List UInt8 × Int} : before x y = true ↔ aheadW x.1 y.1 = true ∨ (x.1 = y.1 ∧ x.2 < y.2) := by
  unfold before wallAhead
  simp

theorem before_irrefl (x : List UInt8 × Int) : before x x = false := by
  rw [← Bool.not_eq_true, before_iff]
  rintro (h | ⟨_, h⟩)
  · rw [ahead_irrefl] at h; cases h
  · omega

theorem before_trans {x y z : List UInt8 × Int} (h1 : before x y = true) (h2 : before y z = true) : before x z = true := by
  rw [before_iff] at *
  rcases h1 with h1 | ⟨h1, h3⟩ <;> rcases h2 with h2 | ⟨h2, h4⟩
  · exact .inl (ahead_trans h1 h2)
  · exact .inl (h2 ▸ h1)
  · exact .inl (h1 ▸ h2)
  · exact .inr ⟨h1.trans h2, by omega⟩

theorem before_total {x y : List UInt8 × Int} (h : x ≠ y) : before x y = true ∨ before y x = true := by
  rw [before_iff, before_iff]
  by_cases h1 : x.1 = y.1
  · have h2 : x.2 ≠ y.2 := fun h2 => h (Prod.ext h1 h2)
    rcases Int.lt_or_gt_of_ne h2 with h3 | h3
    · exact .inl (.inr ⟨h1, h3⟩)
    · exact .inr (.inr ⟨h1.symm, h3⟩)
  · rcases ahead_total h1 with h2 | h2
    · exact .inl (.inl h2)
    · exact .inr (.inl h2)

/-- The wall's order as a number below 0. -/
def cmpE (x y : List UInt8 × Int) : Int := if Hy.cmpW x.1 y.1 ≠ 0 then Hy.cmpW x.1 y.1 else if x.2 < y.2 then -1 else if y.2 < x.2 then 1 else 0

theorem cmpE_before {x y : List UInt8 × Int} : cmpE x y < 0 ↔ before x y = true := by
  rw [before_iff]
  unfold cmpE
  by_cases h : Hy.cmpW x.1 y.1 = 0
  · rw [if_neg (by simpa using h)]
    have h1 := cmpW_zero.1 h
    rw [h1, ahead_irrefl]
    by_cases h2 : x.2 < y.2
    · simp [h2]
    · rw [if_neg h2]
      by_cases h3 : y.2 < x.2
      · simp [h2, h3]
      · simp [h2, h3]
  · rw [if_pos h, cmpW_ahead]
    have h1 : x.1 ≠ y.1 := fun h1 => h (cmpW_zero.2 h1)
    simp [h1]

theorem wallPlace_end {t : List UInt8} {m : Int} : ∀ {T : WallList} {i : Nat}, wallPlace t m T i = (i + T.length, false) ↔ ∀ x ∈ T, before x (t, m) = true
  | [], i => by simp [wallPlace]
  | (k, n) :: r, i => by
    have key : ∀ (T : WallList) (j : Nat), j ≤ (wallPlace t m T j).1 := by
      intro T
      induction T with
      | nil => intro j; simp [wallPlace]
      | cons p T ih =>
        intro j
        obtain ⟨a, b⟩ := p
        unfold wallPlace
        split
        · exact Nat.le_refl _
        · split
          · exact Nat.le_refl _
          · exact Nat.le_of_succ_le (ih (j + 1))
    unfold wallPlace
    by_cases h1 : k = t ∧ n = m
    · rw [if_pos h1]
      constructor
      · intro h; simp at h
      · intro h
        have := h (k, n) (List.mem_cons_self)
        rw [h1.1, h1.2, before_irrefl] at this
        cases this
    · rw [if_neg h1]
      by_cases h2 : wallAhead t m k n = true
      · rw [if_pos h2]
        constructor
        · intro h; simp at h
        · intro h
          have h3 := h (k, n) (List.mem_cons_self)
          have h4 : before (t, m) (k, n) = true := h2
          have := before_trans h3 h4
          rw [before_irrefl] at this
          cases this
      · rw [if_neg h2]
        have h3 : before (k, n) (t, m) = true := by
          have hne : (k, n) ≠ (t, m) := fun h => h1 ⟨congrArg Prod.fst h, congrArg Prod.snd h⟩
          rcases before_total hne with h | h
          · exact h
          · exact absurd h h2
        have ih := wallPlace_end (t := t) (m := m) (T := r) (i := i + 1)
        have hl : i + 1 + r.length = i + ((k, n) :: r).length := by simp; omega
        rw [hl] at ih
        rw [ih]
        simp [h3]

theorem thingPlace_end {t : List UInt8} : ∀ {T : ThingList} {i : Nat}, thingPlace t T i = (i + T.length, false) ↔ ∀ x ∈ T, aheadW x.1 t = true
  | [], i => by simp [thingPlace]
  | (k, n) :: r, i => by
    unfold thingPlace
    by_cases h1 : k = t
    · rw [if_pos h1]
      constructor
      · intro h; simp at h
      · intro h
        have := h (k, n) (List.mem_cons_self)
        rw [h1, ahead_irrefl] at this
        cases this
    · rw [if_neg h1]
      by_cases h2 : aheadW t k = true
      · rw [if_pos h2]
        constructor
        · intro h; simp at h
        · intro h
          have h3 := h (k, n) (List.mem_cons_self)
          have := ahead_trans h3 h2
          rw [ahead_irrefl] at this
          cases this
      · rw [if_neg h2]
        have h3 : aheadW k t = true := (ahead_total h1).resolve_right h2
        have ih := thingPlace_end (t := t) (T := r) (i := i + 1)
        have hl : i + 1 + r.length = i + ((k, n) :: r).length := by simp; omega
        rw [hl] at ih
        rw [ih]
        simp [h3]

/-- All are ahead of one that the last one is ahead of. -/
theorem last_all {α : Type} {r : α → α → Prop} (htr : ∀ {a b c}, r a b → r b c → r a c) {T : List α} (hs : T.Pairwise r) {y : α} : (∀ x ∈ T.getLast?, r x y) ↔ ∀ x ∈ T, r x y := by
  rcases List.eq_nil_or_concat T with rfl | ⟨a, l, rfl⟩
  · simp
  · rw [List.concat_eq_append] at *
    simp only [List.getLast?_append, List.getLast?_singleton, Option.some_or, Option.mem_some_iff, List.mem_append, List.mem_singleton]
    obtain ⟨_, _, h3⟩ := List.pairwise_append.1 hs
    constructor
    · intro h x hx
      rcases hx with hx | rfl
      · exact htr (h3 x hx l (by simp)) (h l rfl)
      · exact h _ rfl
    · rintro h x rfl
      exact h _ (.inr rfl)

/-- A text with its length ahead. -/
def takeText : List UInt8 → Option (List UInt8 × List UInt8)
  | [] => none
  | c :: r => if r.length < c.toNat then none else some (r.take c.toNat, r.drop c.toNat)

/-- A normal word. -/
def takeTile (o : Hy.Ord) (l : List UInt8) : Option (List UInt8 × List UInt8) :=
  match takeText l with
  | none => none
  | some (w, r) => if Hy.wordErr w = 0 ∧ Hy.norm o 1000 w = some w then some (w, r) else none

/-- The side leads up. -/
def upward (o : Hy.Ord) (t : List UInt8) (m : Nat) : Bool :=
  match Hy.norm o 1000 (t ++ Hy.letter m) with
  | some n => decide (t.length < n.length)
  | none => false

def wallStep (o : Hy.Ord) (s : WallList × List UInt8) : Option (WallList × List UInt8) :=
  match takeTile o s.2 with
  | none => none
  | some (_, []) => none
  | some (t, c :: r) => if (c.toNat ≤ 2 ∧ s.1.length < 100 ∧ ∀ x ∈ s.1.getLast?, before x (t, (c.toNat : Int)) = true) ∧ upward o t c.toNat = true then some (s.1 ++ [(t, (c.toNat : Int))], r) else none

def thingStep (o : Hy.Ord) (s : ThingList × List UInt8) : Option (ThingList × List UInt8) :=
  match takeTile o s.2 with
  | none => none
  | some (t, r) =>
    match takeText r with
    | none => none
    | some (x, r2) => if s.1.length < 200 ∧ (∀ y ∈ s.1.getLast?, aheadW y.1 t = true) ∧ x ≠ [] ∧ Hy.isThing x = true then some (s.1 ++ [(t, x)], r2) else none

/-- So many steps. -/
def many {S : Type} (f : S → Option S) : Nat → S → Option S
  | 0, s => some s
  | n + 1, s => match f s with | none => none | some s' => many f n s'

def takeNum : List UInt8 → Option (Nat × List UInt8)
  | a :: b :: r => some (256 * a.toNat + b.toNat, r)
  | _ => none

/-- What lies behind the orders. -/
def parseRest (o : Hy.Ord) (l : List UInt8) : Option (WallList × ThingList) :=
  match takeNum l with
  | none => none
  | some (n, r) =>
    match many (wallStep o) n ([], r) with
    | none => none
    | some (W, r2) =>
      match takeNum r2 with
      | none => none
      | some (k, r3) =>
        match many (thingStep o) k ([], r3) with
        | some (T, []) => some (W, T)
        | _ => none

/-- What an image says: the orders, the walls, the things. -/
def parse : List UInt8 → Option (Hy.Ord × WallList × ThingList)
  | a :: b :: c :: r => if Hy.ordErr a.toNat b.toNat c.toNat = 0 then (parseRest ⟨a.toNat, b.toNat, c.toNat⟩ r).map (fun p => (⟨a.toNat, b.toNat, c.toNat⟩, p)) else none
  | _ => none

theorem wallStep_some {o : Hy.Ord} {T T' : WallList} {l l' : List UInt8} (h : wallStep o (T, l) = some (T', l')) : ∃ t c, takeTile o l = some (t, c :: l') ∧ c.toNat ≤ 2 ∧ T.length < 100 ∧ (∀ x ∈ T.getLast?, before x (t, (c.toNat : Int)) = true) ∧ upward o t c.toNat = true ∧ T' = T ++ [(t, (c.toNat : Int))] := by
  unfold wallStep at h
  simp only at h
  cases ht : takeTile o l with
  | none => rw [ht] at h; cases h
  | some p =>
    obtain ⟨t, r⟩ := p
    rw [ht] at h
    cases r with
    | nil => cases h
    | cons c r =>
      simp only at h
      split at h
      · rename_i hc
        cases h
        exact ⟨t, c, rfl, hc.1.1, hc.1.2.1, hc.1.2.2, hc.2, rfl⟩
      · cases h

theorem wallStep_pair {o : Hy.Ord} {T T' : WallList} {l l' : List UInt8} (hT : T.Pairwise (fun x y => before x y = true)) (h : wallStep o (T, l) = some (T', l')) : T'.Pairwise (fun x y => before x y = true) ∧ T'.length = T.length + 1 ∧ T'.length ≤ 100 := by
  obtain ⟨t, c, _, _, h3, h4, _, rfl⟩ := wallStep_some h
  refine ⟨List.pairwise_append.2 ⟨hT, List.pairwise_singleton _ _, fun x hx y hy => ?_⟩, by simp, by simp; omega⟩
  rw [List.mem_singleton.1 hy]
  exact (last_all (r := fun x y : List UInt8 × Int => before x y = true) (fun h1 h2 => before_trans h1 h2) hT).1 h4 x hx

theorem thingStep_some {o : Hy.Ord} {T T' : ThingList} {l l' : List UInt8} (h : thingStep o (T, l) = some (T', l')) : ∃ t r x, takeTile o l = some (t, r) ∧ takeText r = some (x, l') ∧ T.length < 200 ∧ (∀ y ∈ T.getLast?, aheadW y.1 t = true) ∧ x ≠ [] ∧ Hy.isThing x = true ∧ T' = T ++ [(t, x)] := by
  unfold thingStep at h
  simp only at h
  cases ht : takeTile o l with
  | none => rw [ht] at h; cases h
  | some p =>
    obtain ⟨t, r⟩ := p
    rw [ht] at h
    simp only at h
    cases hx : takeText r with
    | none => rw [hx] at h; cases h
    | some q =>
      obtain ⟨x, r2⟩ := q
      rw [hx] at h
      simp only at h
      split at h
      · rename_i hc
        cases h
        exact ⟨t, r, x, rfl, hx, hc.1, hc.2.1, hc.2.2.1, hc.2.2.2, rfl⟩
      · cases h

theorem thingStep_pair {o : Hy.Ord} {T T' : ThingList} {l l' : List UInt8} (hT : T.Pairwise (fun x y => aheadW x.1 y.1 = true)) (h : thingStep o (T, l) = some (T', l')) : T'.Pairwise (fun x y => aheadW x.1 y.1 = true) ∧ T'.length = T.length + 1 ∧ T'.length ≤ 200 := by
  obtain ⟨t, r, x, _, _, h3, h4, _, _, rfl⟩ := thingStep_some h
  refine ⟨List.pairwise_append.2 ⟨hT, List.pairwise_singleton _ _, fun y hy z hz => ?_⟩, by simp, by simp; omega⟩
  rw [List.mem_singleton.1 hz]
  exact (last_all (r := fun x y : List UInt8 × List UInt8 => aheadW x.1 y.1 = true) (fun h1 h2 => ahead_trans h1 h2) hT).1 h4 y hy

/-- Too many walls, or things, are none. -/
theorem many_walls {o : Hy.Ord} : ∀ {n : Nat} {T : WallList} {l : List UInt8}, T.length ≤ 100 → 100 < n + T.length → many (wallStep o) n (T, l) = none
  | 0, T, l, h, h2 => by omega
  | n + 1, T, l, h, h2 => by
    unfold many
    cases hs : wallStep o (T, l) with
    | none => rfl
    | some p =>
      obtain ⟨T', l'⟩ := p
      obtain ⟨t, c, _, _, h3, _, _, rfl⟩ := wallStep_some hs
      exact many_walls (by simp; omega) (by simp; omega)

theorem many_things {o : Hy.Ord} : ∀ {n : Nat} {T : ThingList} {l : List UInt8}, T.length ≤ 200 → 200 < n + T.length → many (thingStep o) n (T, l) = none
  | 0, T, l, h, h2 => by omega
  | n + 1, T, l, h, h2 => by
    unfold many
    cases hs : thingStep o (T, l) with
    | none => rfl
    | some p =>
      obtain ⟨T', l'⟩ := p
      obtain ⟨t, r, x, _, _, h3, _, _, _, rfl⟩ := thingStep_some hs
      exact many_things (by simp; omega) (by simp; omega)

theorem takeText_len {l w r : List UInt8} (h : takeText l = some (w, r)) : w.length ≤ 255 ∧ w.length + r.length + 1 = l.length := by
  cases l with
  | nil => cases h
  | cons c l =>
    have h' : (if l.length < c.toNat then none else some (l.take c.toNat, l.drop c.toNat)) = some (w, r) := h
    by_cases hc : l.length < c.toNat
    · rw [if_pos hc] at h'; cases h'
    · rw [if_neg hc] at h'
      have e1 : l.take c.toNat = w := congrArg Prod.fst (Option.some.inj h')
      have e2 : l.drop c.toNat = r := congrArg Prod.snd (Option.some.inj h')
      have := c.toNat_lt
      rw [← e1, ← e2]
      simp
      omega

theorem takeTile_some {o : Hy.Ord} {l w r : List UInt8} (h : takeTile o l = some (w, r)) : takeText l = some (w, r) ∧ Hy.wordErr w = 0 ∧ Hy.norm o 1000 w = some w := by
  unfold takeTile at h
  cases ht : takeText l with
  | none => rw [ht] at h; cases h
  | some p =>
    obtain ⟨w', r'⟩ := p
    rw [ht] at h
    simp only at h
    split at h
    · rename_i hc
      cases h
      exact ⟨rfl, hc.1, hc.2⟩
    · cases h
end Go.Proofs.YtbfnnlcckpabnaaGreat
