/- Plain Lean, no program: the graph of tiles that grows: what holds of it, and that a step keeps it. -/
import Derived.Test.YtbfnnlcckpabnaaTri
namespace Hy
set_option linter.unusedSimpArgs false
set_option linter.unusedVariables false

abbrev Word := List UInt8

/-- Rows of letters in turns: the first one that begins with a, the second one that ends with it. -/
def V : Nat → Nat → Nat → Word
  | 0, _, _ => []
  | k + 1, a, b => letter a ++ V k b a
def U : Nat → Nat → Nat → Word
  | 0, _, _ => []
  | k + 1, a, b => U k b a ++ letter a

/-- Words of the same motion. -/
inductive Eqv (o : Ord) : Word → Word → Prop
  | refl (w) : Eqv o w w
  | symm {u v} : Eqv o u v → Eqv o v u
  | trans {u v w} : Eqv o u v → Eqv o v w → Eqv o u w
  | two (p q : Word) {s : Nat} : s < 3 → Eqv o (p ++ (letter s ++ letter s) ++ q) (p ++ q)
  | turn (p q : Word) {a b : Nat} : a < 3 → b < 3 → a ≠ b → 0 < o.m a b → Eqv o (p ++ V (o.m a b + o.m a b) a b ++ q) (p ++ q)

theorem Eqv.ctx {o : Ord} (l r : Word) {u v : Word} (h : Eqv o u v) : Eqv o (l ++ u ++ r) (l ++ v ++ r) := by
  induction h with
  | refl w => exact .refl _
  | symm _ ih => exact .symm ih
  | trans _ _ ih1 ih2 => exact .trans ih1 ih2
  | two p q hs => simpa using Eqv.two (o := o) (l ++ p) (q ++ r) hs
  | turn p q ha hb hab hm => simpa using Eqv.turn (o := o) (l ++ p) (q ++ r) ha hb hab hm

theorem Eqv.left {o : Ord} (l : Word) {u v : Word} (h : Eqv o u v) : Eqv o (l ++ u) (l ++ v) := by simpa using h.ctx l []
theorem Eqv.right {o : Ord} (r : Word) {u v : Word} (h : Eqv o u v) : Eqv o (u ++ r) (v ++ r) := by simpa using h.ctx [] r
theorem Eqv.pair {o : Ord} {s : Nat} (hs : s < 3) (w : Word) : Eqv o (w ++ letter s ++ letter s) w := by simpa using Eqv.two (o := o) w [] hs

theorem U_V : ∀ (k a b : Nat), U k a b = if k % 2 = 0 then V k b a else V k a b
  | 0, a, b => rfl
  | 1, a, b => rfl
  | k + 2, a, b => by
    have h1 : U (k + 2) a b = U k a b ++ letter b ++ letter a := rfl
    have key : ∀ (k a b : Nat), V (k + 1) a b = V k a b ++ letter (if k % 2 = 0 then a else b) := by
      intro k
      induction k with
      | zero => intro a b; simp [V]
      | succ k ih =>
        intro a b
        show letter a ++ V (k + 1) b a = letter a ++ V k b a ++ _
        rw [ih b a, List.append_assoc]
        congr 2
        by_cases h : k % 2 = 0
        · rw [if_pos h, if_neg (by omega)]
        · rw [if_neg h, if_pos (by omega)]
    rw [h1, U_V k a b]
    by_cases h : k % 2 = 0
    · rw [if_pos h, if_pos (by omega), key (k + 1) b a, key k b a, if_pos h, if_neg (by omega)]
    · rw [if_neg h, if_neg (by omega), key (k + 1) a b, key k a b, if_neg h, if_pos (by omega)]

theorem V_add : ∀ (k l a b : Nat), V (k + l) a b = V k a b ++ (if k % 2 = 0 then V l a b else V l b a)
  | 0, l, a, b => by simp [V]
  | k + 1, l, a, b => by
    rw [show k + 1 + l = (k + l) + 1 by omega]
    show letter a ++ V (k + l) b a = letter a ++ V k b a ++ _
    rw [V_add k l b a, List.append_assoc]
    by_cases h : k % 2 = 0
    · rw [if_pos h, if_neg (by omega)]
    · rw [if_neg h, if_pos (by omega)]

/-- A row in turns, followed by itself turned about, is nothing. -/
theorem U_back {o : Ord} : ∀ (k a b : Nat), a < 3 → b < 3 → Eqv o (U k a b ++ V k a b) []
  | 0, a, b, _, _ => .refl _
  | k + 1, a, b, ha, hb => by
    show Eqv o (U k b a ++ letter a ++ (letter a ++ V k b a)) []
    refine .trans ?_ (U_back k b a hb ha)
    simpa using Eqv.two (o := o) (U k b a) (V k b a) ha

/-- Both ways around half a corner. -/
theorem braid {o : Ord} {a b : Nat} (ha : a < 3) (hb : b < 3) (hab : a ≠ b) (hm : 0 < o.m a b) : Eqv o (U (o.m a b) a b) (U (o.m a b) b a) := by
  have hba : o.m b a = o.m a b := o.m_comm b a
  have h1 : Eqv o (U (o.m a b) a b ++ V (o.m a b) b a) [] := by
    rw [U_V]
    by_cases h : o.m a b % 2 = 0
    · rw [if_pos h]
      have := Eqv.turn (o := o) [] [] hb ha hab.symm (by omega)
      rw [hba, V_add, if_pos h] at this
      simpa using this
    · rw [if_neg h]
      have := Eqv.turn (o := o) [] [] ha hb hab hm
      rw [V_add, if_neg h] at this
      simpa using this
  have h2 : Eqv o (V (o.m a b) b a ++ U (o.m a b) b a) [] := by
    have key : ∀ (k a b : Nat), a < 3 → b < 3 → Eqv o (V k a b ++ U k a b) [] := by
      intro k a b ha hb
      have e1 := U_V k a b
      by_cases h : k % 2 = 0
      · have e2 := U_V k b a
        rw [if_pos h] at e1 e2
        rw [e1, ← e2]; exact U_back k b a hb ha
      · have h4 := U_back (o := o) k a b ha hb
        rw [if_neg h] at e1
        rw [e1] at h4 ⊢; exact h4
    exact key _ b a hb ha
  have h3 : Eqv o (U (o.m a b) a b) (U (o.m a b) a b ++ (V (o.m a b) b a ++ U (o.m a b) b a)) := by simpa using (h2.left (U (o.m a b) a b)).symm
  refine h3.trans ?_
  rw [← List.append_assoc]
  simpa using h1.right (U (o.m a b) b a)

/-- What a graph tells of a tile. -/
def tod (G : List Node) (i s : Nat) : Option Nat := match G[i]? with | some n => n.to s | none => none
def dnb (G : List Node) (i s : Nat) : Bool := match G[i]? with | some n => n.down s | none => false
def wd (G : List Node) (i : Nat) : Word := match G[i]? with | some n => n.word | none => []
def dn (G : List Node) (i s : Nat) : Option Nat := if dnb G i s = true then tod G i s else none

theorem dn_some {G : List Node} {i s j : Nat} : dn G i s = some j ↔ dnb G i s = true ∧ tod G i s = some j := by
  unfold dn
  by_cases h : dnb G i s = true
  · rw [if_pos h]; exact ⟨fun e => ⟨h, e⟩, fun e => e.2⟩
  · rw [if_neg h]; exact ⟨fun e => (by cases e), fun e => absurd e.1 h⟩

theorem tod_lt {G : List Node} {i s j : Nat} (h : tod G i s = some j) : i < G.length := by
  unfold tod at h
  cases hn : G[i]? with
  | none => rw [hn] at h; cases h
  | some n => exact (List.getElem?_eq_some_iff.1 hn).1
theorem dnb_lt {G : List Node} {i s : Nat} (h : dnb G i s = true) : i < G.length := by
  unfold dnb at h
  cases hn : G[i]? with
  | none => rw [hn] at h; cases h
  | some n => exact (List.getElem?_eq_some_iff.1 hn).1
theorem wd_some {G : List Node} {i : Nat} {n : Node} (h : G[i]? = some n) : wd G i = n.word := by unfold wd; rw [h]
theorem wd_out {G : List Node} {i : Nat} (h : G.length ≤ i) : wd G i = [] := by unfold wd; rw [List.getElem?_eq_none h]

/-- So many steps down in turns lead from x to v. -/
def Dch (G : List Node) : Nat → Nat → Nat → Nat → Nat → Prop
  | 0, x, _, _, v => x = v
  | k + 1, x, a, b, v => ∃ j, dn G x a = some j ∧ Dch G k j b a v

theorem Dch_fun {G : List Node} : ∀ {k x a b v v' : Nat}, Dch G k x a b v → Dch G k x a b v' → v = v'
  | 0, _, _, _, _, _, h1, h2 => h1.symm.trans h2
  | k + 1, _, _, _, _, _, ⟨j, h1, h2⟩, ⟨j', h3, h4⟩ => by cases h1.symm.trans h3; exact Dch_fun h2 h4

theorem Dch_next {G : List Node} : ∀ {k m x a b v w : Nat}, k < m → Dch G k x a b w → Dch G m x a b v → ∃ c j, (c = a ∨ c = b) ∧ dn G w c = some j
  | 0, m + 1, x, a, b, v, w, _, h1, ⟨j, h2, _⟩ => by cases h1; exact ⟨a, j, .inl rfl, h2⟩
  | k + 1, m + 1, x, a, b, v, w, h, ⟨j, h1, h2⟩, ⟨j', h3, h4⟩ => by
    cases h1.symm.trans h3
    obtain ⟨c, j2, h5, h6⟩ := Dch_next (Nat.lt_of_succ_lt_succ h) h2 h4
    exact ⟨c, j2, h5.symm, h6⟩

theorem Dch_mono {G G' : List Node} (hm : ∀ i a j, dn G i a = some j → dn G' i a = some j) : ∀ {k x a b v : Nat}, Dch G k x a b v → Dch G' k x a b v
  | 0, _, _, _, _, h => h
  | k + 1, _, _, _, _, ⟨j, h1, h2⟩ => ⟨j, hm _ _ _ h1, Dch_mono hm h2⟩

theorem Dch_back {G G' : List Node} (P : Nat → Prop) (hm : ∀ i a j, P i → dn G' i a = some j → dn G i a = some j ∧ P j) : ∀ {k x a b v : Nat}, P x → Dch G' k x a b v → Dch G k x a b v ∧ P v
  | 0, _, _, _, _, hx, h => ⟨h, by cases h; exact hx⟩
  | k + 1, _, _, _, _, hx, ⟨j, h1, h2⟩ => by
    obtain ⟨h3, h4⟩ := hm _ _ _ hx h1
    obtain ⟨h5, h6⟩ := Dch_back P hm h4 h2
    exact ⟨⟨j, h3, h5⟩, h6⟩

theorem Dch_Ch {G : List Node} : ∀ {k x a b v : Nat}, Dch G k x a b v → Ch (dn G) k x a b
  | 0, _, _, _, _, _ => trivial
  | k + 1, _, _, _, _, ⟨j, h1, h2⟩ => ⟨j, h1, Dch_Ch h2⟩

/-- What holds of a graph; the tiles of E are not yet done. -/
structure Inv (o : Ord) (G : List Node) (E : Nat → Prop) : Prop where
  pos : 0 < G.length
  root : wd G 0 = []
  lets : ∀ i, ∀ c ∈ wd G i, c.toNat < 3
  sym : ∀ {i s j}, tod G i s = some j → s < 3 ∧ tod G j s = some i
  lo : ∀ {i s}, dnb G i s = true → ∃ j, tod G i s = some j ∧ (wd G i).length = (wd G j).length + 1
  up : ∀ {i s j}, tod G i s = some j → dnb G i s = false → dnb G j s = true
  snd : ∀ {i s j}, tod G i s = some j → Eqv o (wd G i ++ letter s) (wd G j)
  top : ∀ {i a b}, dnb G i a = true → dnb G i b = true → a ≠ b → 0 < o.m a b ∧ ∃ v, Dch G (o.m a b) i a b v ∧ Dch G (o.m a b) i b a v ∧ dnb G v a = false ∧ dnb G v b = false
  full : ∀ {i a b v}, ¬ E i → a ≠ b → a < 3 → b < 3 → 0 < o.m a b → Dch G (o.m a b) i a b v → dnb G i b = true
  nf1 : ∀ {i s j}, ¬ E i → dnb G i s = true → tod G i s = some j → less (wd G j ++ letter s) (wd G i) = false
  nf2 : ∀ {i}, ¬ E i → i < G.length → i ≠ 0 → ∃ s j, dnb G i s = true ∧ tod G i s = some j ∧ wd G i = wd G j ++ letter s

section
variable {o : Ord} {G : List Node} {E : Nat → Prop}

theorem Inv.lo' (I : Inv o G E) {i s j : Nat} (h : dn G i s = some j) : s < 3 ∧ dnb G i s = true ∧ tod G i s = some j ∧ tod G j s = some i ∧ (wd G i).length = (wd G j).length + 1 := by
  obtain ⟨h1, h2⟩ := dn_some.1 h
  obtain ⟨j', h3, h4⟩ := I.lo h1
  cases h2.symm.trans h3
  exact ⟨(I.sym h2).1, h1, h2, (I.sym h2).2, h4⟩

/-- A side does not lead down on both of its sides. -/
theorem Inv.one (I : Inv o G E) {i s j : Nat} (h : tod G i s = some j) (h1 : dnb G i s = true) : dnb G j s = false := by
  cases h2 : dnb G j s with
  | false => rfl
  | true =>
    obtain ⟨k, h3, h4⟩ := I.lo h2
    obtain ⟨k', h5, h6⟩ := I.lo h1
    cases h.symm.trans h5
    cases h3.symm.trans (I.sym h).2
    omega

theorem Inv.lo_of (I : Inv o G E) {i s : Nat} (h : dnb G i s = true) : ∃ j, Hy.dn G i s = some j := by
  obtain ⟨j, h1, _⟩ := I.lo h
  exact ⟨j, dn_some.2 ⟨h, h1⟩⟩

theorem Inv.rise (I : Inv o G E) {i s j : Nat} (h : tod G i s = some j) (h1 : dnb G i s = false) : Hy.dn G j s = some i ∧ (wd G j).length = (wd G i).length + 1 := by
  have h2 := I.up h h1
  have h3 : Hy.dn G j s = some i := dn_some.2 ⟨h2, (I.sym h).2⟩
  exact ⟨h3, (I.lo' h3).2.2.2.2⟩

theorem Dch_inj (I : Inv o G E) : ∀ {k x x' a b v : Nat}, Dch G k x a b v → Dch G k x' a b v → x = x'
  | 0, _, _, _, _, _, h1, h2 => h1.trans h2.symm
  | k + 1, _, _, _, _, _, ⟨j, h1, h2⟩, ⟨j', h3, h4⟩ => by
    cases Dch_inj I h2 h4
    have e1 := (I.lo' h1).2.2.2.1
    have e2 := (I.lo' h3).2.2.2.1
    exact Option.some.inj (e1.symm.trans e2)

theorem Dch_len (I : Inv o G E) : ∀ {k x a b v : Nat}, Dch G k x a b v → (wd G x).length = (wd G v).length + k
  | 0, _, _, _, _, h => by cases h; rfl
  | k + 1, _, _, _, _, ⟨j, h1, h2⟩ => by have := Dch_len I h2; have := (I.lo' h1).2.2.2.2; omega

theorem Dch_lt (I : Inv o G E) : ∀ {k x a b v : Nat}, x < G.length → Dch G k x a b v → v < G.length
  | 0, _, _, _, _, hx, h => by cases h; exact hx
  | k + 1, _, _, _, _, _, ⟨j, h1, h2⟩ => Dch_lt I (tod_lt (I.lo' h1).2.2.2.1) h2

theorem Dch_eqv (I : Inv o G E) : ∀ {k x a b v : Nat}, Dch G k x a b v → Eqv o (wd G v ++ U k a b) (wd G x)
  | 0, _, _, _, _, h => by cases h; simpa [U] using Eqv.refl _
  | k + 1, x, a, b, v, ⟨j, h1, h2⟩ => by
    show Eqv o (wd G v ++ (U k b a ++ letter a)) (wd G x)
    rw [← List.append_assoc]
    exact ((Dch_eqv I h2).right _).trans (I.snd (I.lo' h1).2.2.2.1)

theorem Dch_more (I : Inv o G E) : ∀ {k x a b v c : Nat}, Dch G (k + 1) x a b v → c = a ∨ c = b → dnb G v c = true → ∃ v', Dch G (k + 2) x a b v'
  | 0, x, a, b, v, c, ⟨j, h1, h2⟩, hc, hd => by
    cases h2
    rcases hc with rfl | rfl
    · rw [I.one (I.lo' h1).2.2.1 (I.lo' h1).2.1] at hd; cases hd
    · obtain ⟨j', h3⟩ := I.lo_of hd
      exact ⟨j', _, h1, j', h3, rfl⟩
  | k + 1, x, a, b, v, c, ⟨j, h1, h2⟩, hc, hd => by
    obtain ⟨v', h3⟩ := Dch_more I h2 hc.symm hd
    exact ⟨v', j, h1, h3⟩

theorem lowest_dch (I : Inv o G E) : ∀ {k x a b : Nat}, x < G.length → (∃ v, lowest G k x a b = some (some v) ∧ Dch G k x a b v) ∨ (lowest G k x a b = some none ∧ ∀ v, ¬ Dch G k x a b v)
  | 0, x, _, _, _ => .inl ⟨x, rfl, rfl⟩
  | k + 1, x, a, b, hx => by
    unfold lowest
    have hn : G[x]? = some G[x] := List.getElem?_eq_getElem hx
    rw [hn]
    simp only
    have hd : dnb G x a = G[x].down a := by unfold dnb; rw [hn]
    have ht : tod G x a = G[x].to a := by unfold tod; rw [hn]
    rw [← hd, ← ht]
    cases h : dnb G x a with
    | false =>
      refine .inr ⟨by simp, fun v ⟨j, h1, _⟩ => ?_⟩
      rw [(I.lo' h1).2.1] at h; cases h
    | true =>
      obtain ⟨j, h1, _⟩ := I.lo h
      rw [h1]
      simp only [if_true]
      have hj : dn G x a = some j := dn_some.2 ⟨h, h1⟩
      rcases lowest_dch (k := k) (a := b) (b := a) I (tod_lt (I.sym h1).2) with ⟨v, h2, h3⟩ | ⟨h2, h3⟩
      · exact .inl ⟨v, h2, j, hj, h3⟩
      · refine .inr ⟨h2, fun v ⟨j', h4, h5⟩ => ?_⟩
        cases hj.symm.trans h4
        exact h3 v h5

theorem Inv.downs (I : Inv o G E) : Downs o (Hy.dn G) (fun i => (wd G i).length) where
  less h := by have := (I.lo' h).2.2.2.2; show _ < _; omega
  top _ _ hab h1 h2 := by
    obtain ⟨h3, v, h4, _⟩ := I.top (I.lo' h1).2.1 (I.lo' h2).2.1 hab
    exact ⟨h3, Dch_Ch h4⟩
  meet _ _ hab hm h1 h2 := by
    obtain ⟨_, v, h4, h5, _⟩ := I.top (I.lo' h1).2.1 (I.lo' h2).2.1 hab
    rw [hm] at h4 h5
    obtain ⟨j, e1, k, e2, e3⟩ := h4
    obtain ⟨j', e4, k', e5, e6⟩ := h5
    cases h1.symm.trans e1
    cases h2.symm.trans e4
    have e7 : k = k' := e3.trans e6.symm
    subst e7
    exact ⟨k, e2, e5⟩

/-- At a tile above the bottom of a corner, but not at its top, the next side does not lead down. -/
theorem Inv.notdown (I : Inv o G E) {k z l l' v : Nat} (hll : l ≠ l') (h1 : dnb G v l = false) (h2 : dnb G v l' = false) (hk : k < o.m l l') (h : Dch G k z l' l v) : dnb G z l = false := by
  cases hz : dnb G z l with
  | false => rfl
  | true =>
    cases k with
    | zero => cases h; rw [h1] at hz; cases hz
    | succ k =>
      have hzz := h
      obtain ⟨j, h3, _⟩ := hzz
      obtain ⟨_, v', h4, _⟩ := I.top (I.lo' h3).2.1 hz hll.symm
      obtain ⟨c, j', h5, h6⟩ := Dch_next (by rw [o.m_comm]; exact hk) h h4
      have h7 := (I.lo' h6).2.1
      rcases h5 with rfl | rfl
      · rw [h2] at h7; cases h7
      · rw [h1] at h7; cases h7
end

theorem tod_link {G : List Node} {z y t i r : Nat} (hz : z < G.length) (hy : y < G.length) (hzy : z ≠ y) :
    tod (link G z y t) i r = if r = t ∧ i = z then some y else if r = t ∧ i = y then some z else tod G i r := by
  unfold tod link
  simp only [List.getElem?_modify]
  by_cases h1 : y = i
  · subst h1
    rw [List.getElem?_eq_getElem hy]
    by_cases hr : r = t
    · simp [hr, hzy.symm, setDown, setTo]
    · simp [hr, setDown, setTo, hzy]
  · by_cases h2 : z = i
    · subst h2
      rw [List.getElem?_eq_getElem hz]
      by_cases hr : r = t
      · simp [hr, h1, setTo]
      · simp [hr, h1, setTo]
    · cases hn : G[i]? with
      | none => simp [h1, h2, Ne.symm h1, Ne.symm h2]
      | some n => simp [h1, h2, Ne.symm h1, Ne.symm h2]

theorem dnb_link {G : List Node} {z y t i r : Nat} (hy : y < G.length) : dnb (link G z y t) i r = if i = y ∧ r = t then true else dnb G i r := by
  unfold dnb link
  simp only [List.getElem?_modify]
  by_cases h1 : y = i
  · subst h1
    rw [List.getElem?_eq_getElem hy]
    by_cases h2 : z = y
    · by_cases hr : r = t
      · simp [hr, h2, setDown, setTo]
      · simp [hr, h2, setDown, setTo]
    · by_cases hr : r = t
      · simp [hr, h2, setDown, setTo]
      · simp [hr, h2, setDown, setTo]
  · by_cases h2 : z = i
    · subst h2
      cases hn : G[z]? with
      | none => simp [h1, Ne.symm h1]
      | some n => simp [h1, Ne.symm h1, setTo]
    · cases hn : G[i]? with
      | none => simp [h1, h2, Ne.symm h1]
      | some n => simp [h1, h2, Ne.symm h1]

theorem wd_link {G : List Node} {z y t i : Nat} : wd (link G z y t) i = wd G i := by
  unfold wd link
  simp only [List.getElem?_modify]
  cases hn : G[i]? with
  | none => by_cases h1 : y = i <;> by_cases h2 : z = i <;> simp [h1, h2]
  | some n => by_cases h1 : y = i <;> by_cases h2 : z = i <;> simp [h1, h2, setDown, setTo]

theorem tod_word {G : List Node} {y i r : Nat} {w : Word} : tod (G.modify y (setWord w)) i r = tod G i r := by
  unfold tod
  simp only [List.getElem?_modify]
  cases hn : G[i]? with
  | none => by_cases h1 : y = i <;> simp [h1]
  | some n => by_cases h1 : y = i <;> simp [h1, setWord]
theorem dnb_word {G : List Node} {y i r : Nat} {w : Word} : dnb (G.modify y (setWord w)) i r = dnb G i r := by
  unfold dnb
  simp only [List.getElem?_modify]
  cases hn : G[i]? with
  | none => by_cases h1 : y = i <;> simp [h1]
  | some n => by_cases h1 : y = i <;> simp [h1, setWord]
theorem wd_word {G : List Node} {y i : Nat} {w : Word} (hy : y < G.length) : wd (G.modify y (setWord w)) i = if i = y then w else wd G i := by
  unfold wd
  simp only [List.getElem?_modify]
  by_cases h1 : y = i
  · subst h1
    rw [List.getElem?_eq_getElem hy]
    simp [setWord]
  · cases hn : G[i]? with
    | none => simp [h1, Ne.symm h1]
    | some n => simp [h1, Ne.symm h1]

theorem tod_fresh {G : List Node} {i r : Nat} {w : Word} : tod (G ++ [fresh w]) i r = tod G i r := by
  unfold tod
  rcases Nat.lt_trichotomy i G.length with h | h | h
  · rw [List.getElem?_append_left h]
  · subst h; simp [fresh]
  · rw [List.getElem?_eq_none (by simp; omega), List.getElem?_eq_none (by omega)]
theorem dnb_fresh {G : List Node} {i r : Nat} {w : Word} : dnb (G ++ [fresh w]) i r = dnb G i r := by
  unfold dnb
  rcases Nat.lt_trichotomy i G.length with h | h | h
  · rw [List.getElem?_append_left h]
  · subst h; simp [fresh]
  · rw [List.getElem?_eq_none (by simp; omega), List.getElem?_eq_none (by omega)]
theorem wd_fresh {G : List Node} {i : Nat} {w : Word} : wd (G ++ [fresh w]) i = if i = G.length then w else wd G i := by
  unfold wd
  rcases Nat.lt_trichotomy i G.length with h | h | h
  · rw [List.getElem?_append_left h, if_neg (by omega)]
  · subst h; simp [fresh]
  · rw [List.getElem?_eq_none (by simp; omega), List.getElem?_eq_none (by omega), if_neg (by omega)]

theorem dn_congr {G G' : List Node} (h1 : ∀ i s, dnb G' i s = dnb G i s) (h2 : ∀ i s, tod G' i s = tod G i s) : Hy.dn G' = Hy.dn G := by
  funext i s; unfold dn; rw [h1, h2]
theorem Dch_congr {G G' : List Node} (h : Hy.dn G' = Hy.dn G) {k x a b v : Nat} : Dch G' k x a b v ↔ Dch G k x a b v :=
  ⟨Dch_mono fun i a j e => by rw [← h]; exact e, Dch_mono fun i a j e => by rw [h]; exact e⟩

section
variable {o : Ord} {G : List Node} {E : Nat → Prop}

/-- A new tile that stands alone. -/
theorem Inv.fresh (I : Inv o G E) {w : Word} (hw : ∀ c ∈ w, c.toNat < 3) : Inv o (G ++ [Hy.fresh w]) (fun i => E i ∨ i = G.length) := by
  have hd : Hy.dn (G ++ [Hy.fresh w]) = Hy.dn G := dn_congr (fun _ _ => dnb_fresh) (fun _ _ => tod_fresh)
  have hwd : ∀ {i}, i < G.length → wd (G ++ [Hy.fresh w]) i = wd G i := fun h => by rw [wd_fresh, if_neg (by omega)]
  refine ⟨by simp, by rw [hwd I.pos, I.root], fun i c hc => ?_, fun h => ?_, fun h => ?_, fun h h1 => ?_, fun h => ?_, fun h1 h2 hab => ?_, fun hE hab ha hb hm h => ?_, fun hE h h1 => ?_, fun {i} hE hi h0 => ?_⟩
  · rw [wd_fresh] at hc
    by_cases hi : i = G.length
    · rw [if_pos hi] at hc; exact hw c hc
    · rw [if_neg hi] at hc; exact I.lets i c hc
  · rw [tod_fresh] at h ⊢; exact I.sym h
  · rw [dnb_fresh] at h
    obtain ⟨j, h1, h2⟩ := I.lo h
    refine ⟨j, by rw [tod_fresh]; exact h1, ?_⟩
    rw [hwd (dnb_lt h), hwd (tod_lt (I.sym h1).2)]; exact h2
  · rw [tod_fresh] at h; rw [dnb_fresh] at h1 ⊢; exact I.up h h1
  · rw [tod_fresh] at h
    rw [hwd (tod_lt h), hwd (tod_lt (I.sym h).2)]; exact I.snd h
  · rw [dnb_fresh] at h1 h2
    obtain ⟨h3, v, h4, h5, h6, h7⟩ := I.top h1 h2 hab
    exact ⟨h3, v, (Dch_congr hd).2 h4, (Dch_congr hd).2 h5, by rw [dnb_fresh]; exact h6, by rw [dnb_fresh]; exact h7⟩
  · rw [dnb_fresh]
    exact I.full (fun e => hE (.inl e)) hab ha hb hm ((Dch_congr hd).1 h)
  · rw [dnb_fresh] at h; rw [tod_fresh] at h1
    rw [hwd (tod_lt h1), hwd (tod_lt (I.sym h1).2)]
    exact I.nf1 (fun e => hE (.inl e)) h h1
  · have hi' : i < G.length := by
      have h4 : i ≠ G.length := fun e => hE (.inr e)
      simp at hi
      omega
    obtain ⟨s, j, h1, h2, h3⟩ := I.nf2 (fun e => hE (.inl e)) hi' h0
    refine ⟨s, j, by rw [dnb_fresh]; exact h1, by rw [tod_fresh]; exact h2, ?_⟩
    rw [hwd hi', hwd (tod_lt (I.sym h2).2)]; exact h3

/-- Below other tiles than y, which has nothing above it, nothing changes. -/
theorem Inv.below (I : Inv o G E) {y i a j : Nat} (hup : ∀ r j, tod G y r = some j → dnb G y r = true) (h : Hy.dn G i a = some j) : j ≠ y := by
  rintro rfl
  obtain ⟨_, h1, h2, h3, _⟩ := I.lo' h
  have h4 := hup _ _ h3
  rw [I.one h2 h1] at h4; cases h4

/-- Two tiles become neighbours. -/
theorem Inv.link (I : Inv o G E) {z y t : Nat} (hz : z < G.length) (hy : y < G.length) (ht : t < 3) (hE : E y) (hl : (wd G y).length = (wd G z).length + 1)
    (n1 : tod G z t = none) (n2 : tod G y t = none) (hup : ∀ r j, tod G y r = some j → dnb G y r = true) (hs : Eqv o (wd G z ++ letter t) (wd G y))
    (htop : ∀ r, r ≠ t → dnb G y r = true → 0 < o.m r t ∧ ∃ v, Dch (Hy.link G z y t) (o.m r t) y r t v ∧ Dch (Hy.link G z y t) (o.m r t) y t r v ∧ dnb (Hy.link G z y t) v r = false ∧ dnb (Hy.link G z y t) v t = false) :
    Inv o (Hy.link G z y t) E ∧ (∀ i a j, Hy.dn G i a = some j → Hy.dn (Hy.link G z y t) i a = some j) := by
  have hzy : z ≠ y := by rintro rfl; omega
  have hT := fun i r => tod_link (t := t) (i := i) (r := r) hz hy hzy
  have hD := fun i r => dnb_link (z := z) (t := t) (i := i) (r := r) hy
  have hT' : ∀ {i r j}, tod G i r = some j → tod (Hy.link G z y t) i r = some j := fun {i r j} h => by
    rw [hT, if_neg (by rintro ⟨rfl, rfl⟩; rw [n1] at h; cases h), if_neg (by rintro ⟨rfl, rfl⟩; rw [n2] at h; cases h)]; exact h
  have hzt : dnb G z t = false := by
    cases h : dnb G z t with
    | false => rfl
    | true => obtain ⟨j, h1, _⟩ := I.lo h; rw [n1] at h1; cases h1
  have hmono : ∀ i a j, Hy.dn G i a = some j → Hy.dn (Hy.link G z y t) i a = some j := fun i a j h => by
    obtain ⟨h1, h2⟩ := dn_some.1 h
    refine dn_some.2 ⟨?_, hT' h2⟩
    rw [hD]
    by_cases hh : i = y ∧ a = t
    · rw [if_pos hh]
    · rw [if_neg hh]; exact h1
  have hback : ∀ i a j, i ≠ y → Hy.dn (Hy.link G z y t) i a = some j → Hy.dn G i a = some j ∧ j ≠ y := fun i a j hi h => by
    obtain ⟨h1, h2⟩ := dn_some.1 h
    rw [hD, if_neg (fun e => hi e.1)] at h1
    obtain ⟨j', h3⟩ := I.lo_of h1
    have h4 := (dn_some.1 h3).2
    cases h2.symm.trans (hT' h4)
    exact ⟨h3, I.below hup h3⟩
  refine ⟨⟨by rw [length_link]; exact I.pos, by rw [wd_link]; exact I.root, fun i c hc => ?_, fun {i r j} h => ?_, fun {i r} h => ?_, fun {i r j} h h1 => ?_, fun {i r j} h => ?_, fun {i a b} h1 h2 hab => ?_, fun {i a b v} hEi hab ha hb hm h => ?_, fun {i r j} hEi h h1 => ?_, fun {i} hEi hi h0 => ?_⟩, hmono⟩
  · rw [wd_link] at hc; exact I.lets i c hc
  · rw [hT] at h
    by_cases c1 : r = t ∧ i = z
    · rw [if_pos c1] at h; cases h
      obtain ⟨rfl, rfl⟩ := c1
      exact ⟨ht, by rw [hT, if_neg (by rintro ⟨_, e⟩; exact hzy e.symm), if_pos ⟨rfl, rfl⟩]⟩
    · rw [if_neg c1] at h
      by_cases c2 : r = t ∧ i = y
      · rw [if_pos c2] at h; cases h
        obtain ⟨rfl, rfl⟩ := c2
        exact ⟨ht, by rw [hT, if_pos ⟨rfl, rfl⟩]⟩
      · rw [if_neg c2] at h
        exact ⟨(I.sym h).1, hT' (I.sym h).2⟩
  · rw [hD] at h
    by_cases c : i = y ∧ r = t
    · obtain ⟨rfl, rfl⟩ := c
      exact ⟨z, by rw [hT, if_neg (by rintro ⟨_, e⟩; exact hzy e.symm), if_pos ⟨rfl, rfl⟩], by rw [wd_link, wd_link]; exact hl⟩
    · rw [if_neg c] at h
      obtain ⟨j, h1, h2⟩ := I.lo h
      exact ⟨j, hT' h1, by rw [wd_link, wd_link]; exact h2⟩
  · rw [hT] at h
    rw [hD] at h1
    by_cases c1 : r = t ∧ i = z
    · rw [if_pos c1] at h; cases h
      rw [hD, if_pos ⟨rfl, c1.1⟩]
    · rw [if_neg c1] at h
      by_cases c2 : r = t ∧ i = y
      · rw [if_pos ⟨c2.2, c2.1⟩] at h1; cases h1
      · rw [if_neg c2] at h
        rw [if_neg (fun e => c2 e.symm)] at h1
        rw [hD]
        by_cases c3 : j = y ∧ r = t
        · rw [if_pos c3]
        · rw [if_neg c3]; exact I.up h h1
  · rw [hT] at h
    rw [wd_link, wd_link]
    by_cases c1 : r = t ∧ i = z
    · rw [if_pos c1] at h; cases h
      obtain ⟨rfl, rfl⟩ := c1
      exact hs
    · rw [if_neg c1] at h
      by_cases c2 : r = t ∧ i = y
      · rw [if_pos c2] at h; cases h
        obtain ⟨rfl, rfl⟩ := c2
        exact (hs.symm.right (letter r)).trans (Eqv.pair ht _)
      · rw [if_neg c2] at h; exact I.snd h
  · by_cases hi : i = y
    · subst hi
      by_cases ca : a = t
      · subst ca
        rw [hD, if_neg (by rintro ⟨_, e⟩; exact hab e.symm)] at h2
        obtain ⟨h3, v, h4, h5, h6, h7⟩ := htop b hab.symm h2
        rw [o.m_comm a b]
        exact ⟨h3, v, h5, h4, h7, h6⟩
      · rw [hD, if_neg (fun e => ca e.2)] at h1
        by_cases cb : b = t
        · subst cb
          exact htop a hab h1
        · rw [hD, if_neg (fun e => cb e.2)] at h2
          obtain ⟨h3, v, h4, h5, h6, h7⟩ := I.top h1 h2 hab
          have hv : v ≠ i := by rintro rfl; have := Dch_len I h4; omega
          exact ⟨h3, v, Dch_mono hmono h4, Dch_mono hmono h5, by rw [hD, if_neg (fun e => hv e.1)]; exact h6, by rw [hD, if_neg (fun e => hv e.1)]; exact h7⟩
    · rw [hD, if_neg (fun e => hi e.1)] at h1 h2
      obtain ⟨h3, v, h4, h5, h6, h7⟩ := I.top h1 h2 hab
      have hv : v ≠ y := (Dch_back (· ≠ y) hback hi (Dch_mono hmono h4)).2
      exact ⟨h3, v, Dch_mono hmono h4, Dch_mono hmono h5, by rw [hD, if_neg (fun e => hv e.1)]; exact h6, by rw [hD, if_neg (fun e => hv e.1)]; exact h7⟩
  · have hi : i ≠ y := by rintro rfl; exact hEi hE
    rw [hD, if_neg (fun e => hi e.1)]
    exact I.full hEi hab ha hb hm (Dch_back (· ≠ y) hback hi h).1
  · have hi : i ≠ y := by rintro rfl; exact hEi hE
    rw [hD, if_neg (fun e => hi e.1)] at h
    obtain ⟨j', h3⟩ := I.lo_of h
    cases h1.symm.trans (hT' (dn_some.1 h3).2)
    rw [wd_link, wd_link]
    exact I.nf1 hEi h (dn_some.1 h3).2
  · rw [length_link] at hi
    have hiy : i ≠ y := by rintro rfl; exact hEi hE
    obtain ⟨s, j, h1, h2, h3⟩ := I.nf2 hEi hi h0
    exact ⟨s, j, by rw [hD, if_neg (fun e => hiy e.1)]; exact h1, hT' h2, by rw [wd_link, wd_link]; exact h3⟩

/-- A tile that is not done gets another word. -/
theorem Inv.word (I : Inv o G E) {y : Nat} {w : Word} (hy : y < G.length) (hE : E y) (h0 : y ≠ 0) (hup : ∀ r j, tod G y r = some j → dnb G y r = true)
    (hw : Eqv o w (wd G y)) (hl : w.length = (wd G y).length) (hlet : ∀ c ∈ w, c.toNat < 3) : Inv o (G.modify y (setWord w)) E := by
  have hd : Hy.dn (G.modify y (setWord w)) = Hy.dn G := dn_congr (fun _ _ => dnb_word) (fun _ _ => tod_word)
  have hW : ∀ i, Eqv o (wd (G.modify y (setWord w)) i) (wd G i) ∧ (wd (G.modify y (setWord w)) i).length = (wd G i).length := fun i => by
    rw [wd_word hy]
    by_cases h : i = y
    · subst h; rw [if_pos rfl]; exact ⟨hw, hl⟩
    · rw [if_neg h]; exact ⟨.refl _, rfl⟩
  refine ⟨by rw [List.length_modify]; exact I.pos, by rw [wd_word hy, if_neg h0.symm]; exact I.root, fun i c hc => ?_, fun {i r j} h => ?_, fun {i r} h => ?_, fun {i r j} h h1 => ?_, fun {i r j} h => ?_, fun {i a b} h1 h2 hab => ?_, fun {i a b v} hEi hab ha hb hm h => ?_, fun {i r j} hEi h h1 => ?_, fun {i} hEi hi h0 => ?_⟩
  · rw [wd_word hy] at hc
    by_cases h : i = y
    · rw [if_pos h] at hc; exact hlet c hc
    · rw [if_neg h] at hc; exact I.lets i c hc
  · rw [tod_word] at h ⊢; exact I.sym h
  · rw [dnb_word] at h
    obtain ⟨j, h1, h2⟩ := I.lo h
    exact ⟨j, by rw [tod_word]; exact h1, by rw [(hW i).2, (hW j).2]; exact h2⟩
  · rw [tod_word] at h; rw [dnb_word] at h1 ⊢; exact I.up h h1
  · rw [tod_word] at h
    exact (((hW i).1.right _).trans (I.snd h)).trans (hW j).1.symm
  · rw [dnb_word] at h1 h2
    obtain ⟨h3, v, h4, h5, h6, h7⟩ := I.top h1 h2 hab
    exact ⟨h3, v, (Dch_congr hd).2 h4, (Dch_congr hd).2 h5, by rw [dnb_word]; exact h6, by rw [dnb_word]; exact h7⟩
  · rw [dnb_word]
    exact I.full hEi hab ha hb hm ((Dch_congr hd).1 h)
  · rw [dnb_word] at h; rw [tod_word] at h1
    have hi : i ≠ y := by rintro rfl; exact hEi hE
    have hj : j ≠ y := I.below hup (dn_some.2 ⟨h, h1⟩)
    rw [wd_word hy, wd_word hy, if_neg hi, if_neg hj]
    exact I.nf1 hEi h h1
  · rw [List.length_modify] at hi
    have hiy : i ≠ y := by rintro rfl; exact hEi hE
    obtain ⟨s, j, h1, h2, h3⟩ := I.nf2 hEi hi h0
    have hj : j ≠ y := I.below hup (dn_some.2 ⟨h1, h2⟩)
    refine ⟨s, j, by rw [dnb_word]; exact h1, by rw [tod_word]; exact h2, ?_⟩
    rw [wd_word hy, wd_word hy, if_neg hiy, if_neg hj]; exact h3
end

end Hy
