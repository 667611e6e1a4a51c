import Derived.Test.YtfdklmpkienfhaaGreatGraph

/- Plain Lean, no program: normal words: the tile to which a word leads has the least of all words that lead to it. -/
namespace Hy
set_option linter.unusedSimpArgs false
set_option linter.unusedVariables false

def Lets (w : Word) : Prop := ∀ c ∈ w, c.toNat < 3
abbrev No : Nat → Prop := fun _ => False

theorem Lets.app {u v : Word} : Lets (u ++ v) ↔ Lets u ∧ Lets v := ⟨fun h => ⟨fun c hc => h c (List.mem_append_left _ hc), fun c hc => h c (List.mem_append_right _ hc)⟩, fun h c hc => (List.mem_append.1 hc).elim (h.1 c) (h.2 c)⟩
theorem lets_letter {s : Nat} (hs : s < 3) : Lets (letter s) := fun _ hc => letter_lt hs hc
theorem lets_V : ∀ {k a b : Nat}, a < 3 → b < 3 → Lets (V k a b)
  | 0, _, _, _, _ => fun _ hc => by cases hc
  | k + 1, a, b, ha, hb => Lets.app.2 ⟨lets_letter ha, lets_V hb ha⟩

/-- A way that is known. -/
def Leads (G : List Node) : Nat → Word → Nat → Prop
  | x, [], y => x = y
  | x, c :: w, y => ∃ j, tod G x c.toNat = some j ∧ Leads G j w y

theorem leads_append {G : List Node} : ∀ {u v : Word} {x y : Nat}, Leads G x (u ++ v) y ↔ ∃ k, Leads G x u k ∧ Leads G k v y
  | [], v, x, y => ⟨fun h => ⟨x, rfl, h⟩, fun ⟨k, h1, h2⟩ => by cases h1; exact h2⟩
  | c :: u, v, x, y => ⟨fun ⟨j, h1, h2⟩ => by obtain ⟨k, h3, h4⟩ := leads_append.1 h2; exact ⟨k, ⟨j, h1, h3⟩, h4⟩, fun ⟨k, ⟨j, h1, h3⟩, h4⟩ => ⟨j, h1, leads_append.2 ⟨k, h3, h4⟩⟩⟩
theorem leads_fun {G : List Node} : ∀ {w : Word} {x y y' : Nat}, Leads G x w y → Leads G x w y' → y = y'
  | [], _, _, _, h1, h2 => h1.symm.trans h2
  | _ :: _, _, _, _, ⟨j, h1, h2⟩, ⟨j', h3, h4⟩ => by cases h1.symm.trans h3; exact leads_fun h2 h4
theorem leads_ext {G G' : List Node} {b : Nat} (X : Ext G G' b) : ∀ {w : Word} {x y : Nat}, Leads G x w y → Leads G' x w y
  | [], _, _, h => h
  | _ :: _, _, _, ⟨j, h1, h2⟩ => ⟨j, X.htod h1, leads_ext X h2⟩
theorem leads_letter {G : List Node} {s x y : Nat} {w : Word} (hs : s < 3) : Leads G x (letter s ++ w) y ↔ ∃ j, tod G x s = some j ∧ Leads G j w y := by
  have : (UInt8.ofNat s).toNat = s := by simp only [UInt8.toNat_ofNat']; omega
  show (∃ j, tod G x (UInt8.ofNat s).toNat = some j ∧ Leads G j w y) ↔ _
  rw [this]

section
variable {o : Ord} {G : List Node} {E : Nat → Prop}

theorem Inv.len_le (I : Inv o G E) {i s j : Nat} (h : tod G i s = some j) : (wd G j).length ≤ (wd G i).length + 1 := by
  cases hd : dnb G i s with
  | false => have := (I.rise h hd).2; omega
  | true => have := (I.lo' (dn_some.2 ⟨hd, h⟩)).2.2.2.2; omega

theorem leads_lt (I : Inv o G E) : ∀ {w : Word} {x y : Nat}, x < G.length → Leads G x w y → y < G.length
  | [], _, _, hx, h => by cases h; exact hx
  | _ :: _, _, _, _, ⟨_, h1, h2⟩ => leads_lt I (tod_lt (I.sym h1).2) h2

theorem ofNat_toNat {c : UInt8} : letter c.toNat = [c] := by unfold letter; simp

theorem leads_eqv (I : Inv o G E) : ∀ {w : Word} {x y : Nat}, Leads G x w y → Eqv o (wd G x ++ w) (wd G y)
  | [], _, _, h => by cases h; simpa using Eqv.refl _
  | c :: w, x, y, ⟨j, h1, h2⟩ => by
    have h3 := (I.snd h1).right w
    rw [ofNat_toNat] at h3
    refine Eqv.trans ?_ (leads_eqv I h2)
    simpa using h3
end

/-- Walking always ends. -/
theorem walk_ok {o : Ord} (F : Fine o) {lim fuel : Nat} : ∀ w G x, Inv o G No → x < G.length → Lets w → (wd G x).length + w.length ≤ lim → (wd G x).length + w.length ≤ fuel →
    ∃ G' y, walkL lim o fuel G x w = some (G', y) ∧ Inv o G' No ∧ Ext G G' ((wd G x).length + w.length) ∧ Leads G' x w y ∧ ∀ c D, Gh o G c D → ∃ c' D', Gh o G' c' D' ∧ D' ≤ D + 2 * (w.length : Int)
  | [], G, x, I, _, _, _, _ => ⟨G, x, rfl, I, Ext.refl _ _, rfl, fun c D g => ⟨c, D, g, by simp⟩⟩
  | c :: w, G, x, I, hx, hw, h1, h2 => by
    simp only [List.length_cons] at h1 h2
    obtain ⟨G1, x1, h3, I1, X1, t1, gg1⟩ := step_ok F (lim := lim) fuel No G x c.toNat I hx (hw c (List.mem_cons_self)) (by omega) (fun _ h => h.elim)
    have hle := I1.len_le t1
    rw [X1.hwd hx] at hle
    obtain ⟨G', y, h4, I', X', l', gg'⟩ := walk_ok F (lim := lim) (fuel := fuel) w G1 x1 I1 (tod_lt (I1.sym t1).2) (fun d hd => hw d (List.mem_cons_of_mem _ hd)) (by omega) (by omega)
    refine ⟨G', y, ?_, I', (X1.weak (by simp only [List.length_cons]; omega)).trans (X'.weak (by simp only [List.length_cons]; omega)), ⟨x1, X'.htod t1, l'⟩, fun c D g => ?_⟩
    · unfold walkL; rw [h3]; exact h4
    · obtain ⟨c1, D1, g1, l1⟩ := gg1 c D g
      obtain ⟨c2, D2, g2, l2⟩ := gg' c1 D1 g1
      exact ⟨c2, D2, g2, by simp only [List.length_cons]; omega⟩

/-- The one of two letters that comes behind n letters in turns. -/
def alt (n a b : Nat) : Nat := if n % 2 = 0 then a else b
theorem alt_succ (n a b : Nat) : alt (n + 1) a b = alt n b a := by
  unfold alt
  by_cases h : n % 2 = 0
  · rw [if_neg (by omega), if_pos h]
  · rw [if_pos (by omega), if_neg h]
theorem alt_add (m n a b : Nat) : alt m (alt n a b) (alt n b a) = alt (m + n) a b := by
  induction m with
  | zero => rw [Nat.zero_add]; rfl
  | succ m ih =>
    rw [alt_succ, show m + 1 + n = (m + n) + 1 by omega, alt_succ]
    unfold alt at ih ⊢
    by_cases h : m % 2 = 0
    · rw [if_pos h] at ih ⊢
      by_cases h2 : n % 2 = 0
      · rw [if_pos h2, if_pos (by omega)]
      · rw [if_neg h2, if_neg (by omega)]
    · rw [if_neg h] at ih ⊢
      by_cases h2 : n % 2 = 0
      · rw [if_pos h2, if_neg (by omega)]
      · rw [if_neg h2, if_pos (by omega)]
theorem alt_even {n a b : Nat} (h : n % 2 = 0) : alt n a b = a := if_pos h
theorem alt_two {n a b : Nat} : alt n a b = a ∧ alt n b a = b ∨ alt n a b = b ∧ alt n b a = a := by
  unfold alt
  by_cases h : n % 2 = 0
  · rw [if_pos h, if_pos h]; exact .inl ⟨rfl, rfl⟩
  · rw [if_neg h, if_neg h]; exact .inr ⟨rfl, rfl⟩
theorem V_alt (k l a b : Nat) : V (k + l) a b = V k a b ++ V l (alt k a b) (alt k b a) := by
  rw [V_add]
  unfold alt
  by_cases h : k % 2 = 0
  · rw [if_pos h, if_pos h, if_pos h]
  · rw [if_neg h, if_neg h, if_neg h]

section
variable {o : Ord} {G : List Node} {E : Nat → Prop}

/-- Up from the bottom of a corner. -/
theorem upA (I : Inv o G E) {v : Nat} : ∀ {n p k c d y : Nat}, c < 3 → d < 3 → c ≠ d → dnb G v c = false → dnb G v d = false → Dch G p k d c v → p + n ≤ o.m c d → Leads G k (V n c d) y → Dch G (p + n) y (alt n d c) (alt n c d) v
  | 0, p, k, c, d, y, _, _, _, _, _, hd, _, hl => by cases hl; exact hd
  | n + 1, p, k, c, d, y, hc, hd', hcd, b1, b2, hd, hm, hl => by
    obtain ⟨j, h1, h2⟩ := (leads_letter hc).1 hl
    have h3 := I.notdown hcd b1 b2 (by omega) hd
    have h4 := (I.rise h1 h3).1
    have := upA I (n := n) (p := p + 1) (k := j) (c := d) (d := c) (y := y) hd' hc hcd.symm b2 b1 ⟨k, h4, hd⟩ (by rw [o.m_comm]; omega) h2
    rw [show p + (n + 1) = p + 1 + n by omega, alt_succ, alt_succ]
    exact this

/-- Down towards the bottom of a corner. -/
theorem downB (I : Inv o G E) {v : Nat} : ∀ {n q k c d y : Nat}, c < 3 → d < 3 → Dch G q k c d v → n ≤ q → Leads G k (V n c d) y → Dch G (q - n) y (alt n c d) (alt n d c) v
  | 0, q, k, c, d, y, _, _, hd, _, hl => by cases hl; exact hd
  | n + 1, q, k, c, d, y, hc, hd', hd, hq, hl => by
    obtain ⟨j, h1, h2⟩ := (leads_letter hc).1 hl
    obtain ⟨q, rfl⟩ : ∃ q', q = q' + 1 := ⟨q - 1, by omega⟩
    obtain ⟨j', h3, h4⟩ := hd
    cases h1.symm.trans (I.lo' h3).2.2.1
    have := downB I (n := n) hd' hc h4 (by omega) h2
    rw [show q + 1 - (n + 1) = q - n by omega, alt_succ, alt_succ]
    exact this

/-- At the top of a corner both ways lead down. -/
theorem turnT (I : Inv o G No) {v y c d : Nat} (hc : c < 3) (hd : d < 3) (hcd : c ≠ d) (hm : 0 < o.m c d) (h : Dch G (o.m c d) y d c v) : Dch G (o.m c d) y c d v := by
  have hm' : 0 < o.m d c := by rw [o.m_comm]; exact hm
  have h1 := I.full (a := d) (b := c) id hcd.symm hd hc hm' (by rw [o.m_comm]; exact h)
  have h2 : dnb G y d = true := by
    obtain ⟨m, hm2⟩ : ∃ m, o.m c d = m + 1 := ⟨o.m c d - 1, by omega⟩
    rw [hm2] at h
    obtain ⟨j, h3, _⟩ := h
    exact (I.lo' h3).2.1
  obtain ⟨_, v', h4, h5, _⟩ := I.top h1 h2 hcd
  cases Dch_fun h5 h
  exact h4

/-- The longest way down in turns. -/
theorem longest (I : Inv o G E) : ∀ n x c d, (wd G x).length ≤ n → ∃ k v, Dch G k x c d v ∧ dnb G v (alt k c d) = false ∧ (0 < k → dnb G v (alt k d c) = false)
  | 0, x, c, d, hn => ⟨0, x, rfl, by
      cases h : dnb G x (alt 0 c d) with
      | false => rfl
      | true => obtain ⟨j, h1⟩ := I.lo_of h; have := (I.lo' h1).2.2.2.2; omega, fun h => by omega⟩
  | n + 1, x, c, d, hn => by
    cases h : dnb G x c with
    | false => exact ⟨0, x, rfl, h, fun h => by omega⟩
    | true =>
      obtain ⟨j, h1⟩ := I.lo_of h
      obtain ⟨k, v, h2, h3, h4⟩ := longest I n j d c (by have := (I.lo' h1).2.2.2.2; omega)
      refine ⟨k + 1, v, ⟨j, h1, h2⟩, by rw [alt_succ]; exact h3, fun _ => ?_⟩
      rw [alt_succ]
      cases k with
      | zero => cases h2; exact I.one (I.lo' h1).2.2.1 h
      | succ k => exact h4 (by omega)

/-- Around a corner one comes back. -/
theorem closed (I : Inv o G No) {a b x y : Nat} (ha : a < 3) (hb : b < 3) (hab : a ≠ b) (hm : 0 < o.m a b) (h : Leads G x (V (o.m a b + o.m a b) a b) y) : y = x := by
  have small : ∀ {c d k v : Nat}, c < 3 → d < 3 → c ≠ d → o.m c d = o.m a b → Dch G k x c d v → dnb G v c = false → dnb G v d = false → k ≤ o.m a b := by
    intro c d k v hc hd hcd hme h1 h2 h3
    rcases Nat.lt_or_ge (o.m a b) k with hk | hk
    · exfalso
      have hw : ∃ w, Dch G (o.m a b) x c d w := by
        have : ∀ {m k x c d v : Nat}, m ≤ k → Dch G k x c d v → ∃ w, Dch G m x c d w := by
          intro m
          induction m with
          | zero => intro k x c d v _ _; exact ⟨x, rfl⟩
          | succ m ih =>
            intro k x c d v hk h
            obtain ⟨k, rfl⟩ : ∃ k', k = k' + 1 := ⟨k - 1, by omega⟩
            obtain ⟨j, h1, h2⟩ := h
            obtain ⟨w, h3⟩ := ih (Nat.le_of_succ_le_succ hk) h2
            exact ⟨w, j, h1, h3⟩
        exact this (Nat.le_of_lt hk) h1
      obtain ⟨w, hw⟩ := hw
      rw [← hme] at hw
      have h4 := turnT I hd hc hcd.symm (by rw [o.m_comm]; omega) (by rw [o.m_comm]; exact hw)
      rw [o.m_comm] at h4
      have h5 : dnb G x c = true ∧ dnb G x d = true := by
        obtain ⟨m, hm2⟩ : ∃ m, o.m c d = m + 1 := ⟨o.m c d - 1, by omega⟩
        rw [hm2] at h4 hw
        obtain ⟨j, h6, _⟩ := h4
        obtain ⟨j', h7, _⟩ := hw
        exact ⟨(I.lo' h7).2.1, (I.lo' h6).2.1⟩
      obtain ⟨_, v', h6, _, h7, h8⟩ := I.top h5.1 h5.2 hcd
      cases Dch_fun h6 hw
      rw [hme] at hw
      obtain ⟨e, j, h9, h10⟩ := Dch_next hk hw h1
      have := (I.lo' h10).2.1
      rcases h9 with rfl | rfl
      · rw [h7] at this; cases this
      · rw [h8] at this; cases this
    · exact hk
  have bots : ∀ {k c d v : Nat}, dnb G v (alt k c d) = false → dnb G v (alt k d c) = false → dnb G v c = false ∧ dnb G v d = false := by
    intro k c d v h1 h2
    rcases alt_two (n := k) (a := c) (b := d) with ⟨e1, e2⟩ | ⟨e1, e2⟩
    · rw [e1] at h1; rw [e2] at h2; exact ⟨h1, h2⟩
    · rw [e1] at h1; rw [e2] at h2; exact ⟨h2, h1⟩
  have pick : ∀ n, (alt n a b < 3 ∧ alt n b a < 3) ∧ alt n a b ≠ alt n b a ∧ o.m (alt n a b) (alt n b a) = o.m a b := by
    intro n
    rcases alt_two (n := n) (a := a) (b := b) with ⟨e1, e2⟩ | ⟨e1, e2⟩
    · rw [e1, e2]; exact ⟨⟨ha, hb⟩, hab, rfl⟩
    · rw [e1, e2]; exact ⟨⟨hb, ha⟩, hab.symm, o.m_comm b a⟩
  have low : ∀ n v, dnb G v a = false → dnb G v b = false → dnb G v (alt n a b) = false ∧ dnb G v (alt n b a) = false := by
    intro n v h1 h2
    rcases alt_two (n := n) (a := a) (b := b) with ⟨e1, e2⟩ | ⟨e1, e2⟩
    · rw [e1, e2]; exact ⟨h1, h2⟩
    · rw [e1, e2]; exact ⟨h2, h1⟩
  cases hxa : dnb G x a with
  | true =>
    obtain ⟨k, v, h1, h2, h3⟩ := longest I _ x a b (Nat.le_refl _)
    have hk0 : 0 < k := by
      rcases Nat.eq_zero_or_pos k with rfl | h
      · cases h1
        rw [alt_even (by rfl)] at h2
        rw [h2] at hxa; cases hxa
      · exact h
    obtain ⟨b1, b2⟩ := bots h2 (h3 hk0)
    have hk := small ha hb hab rfl h1 b1 b2
    rw [show o.m a b + o.m a b = k + (o.m a b + (o.m a b - k)) by omega, V_alt, V_alt] at h
    obtain ⟨y1, l1, h⟩ := leads_append.1 h
    obtain ⟨y2, l2, l3⟩ := leads_append.1 h
    have e1 := downB I ha hb h1 (Nat.le_refl _) l1
    rw [Nat.sub_self] at e1
    cases e1
    obtain ⟨⟨p1, p2⟩, p3, p4⟩ := pick k
    obtain ⟨q1, q2⟩ := low k v b1 b2
    have e2 := upA I (n := o.m a b) (p := 0) p1 p2 p3 q1 q2 rfl (by omega) l2
    rw [Nat.zero_add, alt_add, alt_add] at e2
    rw [alt_add, alt_add] at l3
    obtain ⟨⟨p5, p6⟩, p7, p8⟩ := pick (o.m a b + k)
    rw [← p8] at e2
    have e3 := turnT I p5 p6 p7 (by omega) (by rw [p8] at e2 ⊢; exact e2)
    rw [p8] at e3
    have e4 := downB I p5 p6 e3 (by omega) l3
    rw [alt_add, alt_add, show o.m a b - k + (o.m a b + k) = o.m a b + o.m a b by omega, alt_even (by omega), alt_even (by omega), show o.m a b - (o.m a b - k) = k by omega] at e4
    exact Dch_inj I e4 h1
  | false =>
    obtain ⟨k, v, h1, h2, h3⟩ := longest I _ x b a (Nat.le_refl _)
    have hbb : dnb G v b = false ∧ dnb G v a = false := by
      rcases Nat.eq_zero_or_pos k with rfl | h
      · cases h1
        rw [alt_even (by rfl)] at h2
        exact ⟨h2, hxa⟩
      · exact bots h2 (h3 h)
    have hk := small hb ha hab.symm (o.m_comm b a) h1 hbb.1 hbb.2
    rw [show o.m a b + o.m a b = (o.m a b - k) + (o.m a b + k) by omega, V_alt, V_alt] at h
    obtain ⟨y1, l1, h⟩ := leads_append.1 h
    obtain ⟨y2, l2, l3⟩ := leads_append.1 h
    have e1 := upA I ha hb hab hbb.2 hbb.1 h1 (by omega) l1
    rw [show k + (o.m a b - k) = o.m a b by omega] at e1
    obtain ⟨⟨p1, p2⟩, p3, p4⟩ := pick (o.m a b - k)
    have e2 := turnT I p1 p2 p3 (by omega) (by rw [p4]; exact e1)
    rw [p4] at e2
    have e3 := downB I p1 p2 e2 (Nat.le_refl _) l2
    rw [Nat.sub_self] at e3
    cases e3
    rw [alt_add, alt_add] at l3
    obtain ⟨⟨p5, p6⟩, p7, p8⟩ := pick (o.m a b + (o.m a b - k))
    obtain ⟨q1, q2⟩ := low (o.m a b + (o.m a b - k)) v hbb.2 hbb.1
    have e4 := upA I (n := k) (p := 0) p5 p6 p7 q1 q2 rfl (by omega) l3
    rw [alt_add, alt_add, Nat.zero_add, show k + (o.m a b + (o.m a b - k)) = o.m a b + o.m a b by omega, alt_even (by omega), alt_even (by omega)] at e4
    exact Dch_inj I e4 h1
end

/-- Words of the same motion lead to the same tile. -/
theorem same_tile {o : Ord} (F : Fine o) {a b : Word} (h : Eqv o a b) : (Lets a ↔ Lets b) ∧ ∀ G x i j, Inv o G No → x < G.length → Lets a → Leads G x a i → Leads G x b j → i = j := by
  induction h with
  | refl w => exact ⟨Iff.rfl, fun G x i j _ _ _ h1 h2 => leads_fun h1 h2⟩
  | symm _ ih => exact ⟨ih.1.symm, fun G x i j I hx hl h1 h2 => (ih.2 G x j i I hx (ih.1.2 hl) h2 h1).symm⟩
  | @trans u v w _ _ ih1 ih2 =>
    refine ⟨ih1.1.trans ih2.1, fun G x i j I hx hl h1 h2 => ?_⟩
    obtain ⟨G', k, _, I', X', h3, _⟩ := walk_ok F v G x I hx (ih1.1.1 hl) (Nat.le_refl _) (Nat.le_refl _)
    have hx' : x < G'.length := by have := X'.len; omega
    exact (ih1.2 G' x i k I' hx' hl (leads_ext X' h1) h3).trans (ih2.2 G' x k j I' hx' (ih1.1.1 hl) h3 (leads_ext X' h2))
  | two p q hs =>
    refine ⟨?_, fun G x i j I _ _ h1 h2 => ?_⟩
    · simp only [Lets.app]
      exact ⟨fun h => ⟨h.1.1, h.2⟩, fun h => ⟨⟨h.1, lets_letter hs, lets_letter hs⟩, h.2⟩⟩
    · obtain ⟨k, h3, h4⟩ := leads_append.1 h2
      rw [List.append_assoc] at h1
      obtain ⟨k', h5, h6⟩ := leads_append.1 h1
      cases leads_fun h3 h5
      rw [List.append_assoc] at h6
      obtain ⟨j1, h7, h8⟩ := (leads_letter hs).1 h6
      obtain ⟨j2, h9, h10⟩ := (leads_letter hs).1 h8
      cases h9.symm.trans (I.sym h7).2
      exact leads_fun h10 h4
  | turn p q ha hb hab hm =>
    refine ⟨?_, fun G x i j I _ _ h1 h2 => ?_⟩
    · simp only [Lets.app]
      exact ⟨fun h => ⟨h.1.1, h.2⟩, fun h => ⟨⟨h.1, lets_V ha hb⟩, h.2⟩⟩
    · obtain ⟨k, h3, h4⟩ := leads_append.1 h2
      rw [List.append_assoc] at h1
      obtain ⟨k', h5, h6⟩ := leads_append.1 h1
      cases leads_fun h3 h5
      obtain ⟨j1, h7, h8⟩ := leads_append.1 h6
      cases closed I ha hb hab hm h7
      exact leads_fun h8 h4

theorem less_total : ∀ {a b : Word}, less a b = false → less b a = false → a = b
  | [], [], _, _ => rfl
  | [], _ :: _, h, _ => by cases h
  | _ :: _, [], _, h => by cases h
  | x :: a, y :: b, h1, h2 => by
    unfold less at h1 h2
    simp only [Bool.or_eq_false_iff, Bool.and_eq_false_iff, decide_eq_false_iff_not, UInt8.lt_iff_toNat_lt, beq_eq_false_iff_ne] at h1 h2
    have hxy : x = y := UInt8.toNat_inj.1 (by omega)
    subst hxy
    rw [less_total (h1.2.resolve_left (fun h => h rfl)) (h2.2.resolve_left (fun h => h rfl))]
/-- a ≤ b ≤ c. -/
theorem less_trans : ∀ {a b c : Word}, less b a = false → less c b = false → less c a = false
  | [], _, c, _, _ => by cases c <;> rfl
  | _ :: _, [], _, h, _ => by cases h
  | _ :: _, _ :: _, [], _, h => by cases h
  | x :: a, y :: b, z :: c, h1, h2 => by
    unfold less at h1 h2 ⊢
    simp only [Bool.or_eq_false_iff, Bool.and_eq_false_iff, decide_eq_false_iff_not, UInt8.lt_iff_toNat_lt, beq_eq_false_iff_ne] at h1 h2 ⊢
    refine ⟨by omega, ?_⟩
    by_cases hzx : z = x
    · subst hzx
      have hyz : y = z := UInt8.toNat_inj.1 (by omega)
      subst hyz
      exact .inr (less_trans (h1.2.resolve_left (fun h => h rfl)) (h2.2.resolve_left (fun h => h rfl)))
    · exact .inl hzx
theorem less_app : ∀ {a b : Word} (c : Word), a.length = b.length → less (a ++ c) (b ++ c) = less a b
  | [], [], c, _ => (less_irrefl c).trans (less_irrefl []).symm
  | [], _ :: _, _, h => by cases h
  | _ :: _, [], _, h => by cases h
  | x :: a, y :: b, c, h => by
    show less (x :: (a ++ c)) (y :: (b ++ c)) = less (x :: a) (y :: b)
    unfold less
    rw [less_app c (Nat.succ.inj h)]

/-- Shorter, or as long and not behind. -/
def Le (n w : Word) : Prop := n.length < w.length ∨ (n.length = w.length ∧ less w n = false)

theorem Le.refl (w : Word) : Le w w := .inr ⟨rfl, less_irrefl w⟩
theorem Le.antisymm {a b : Word} (h1 : Le a b) (h2 : Le b a) : a = b := by
  rcases h1 with h1 | ⟨_, h1⟩ <;> rcases h2 with h2 | ⟨h3, h2⟩
  · omega
  · omega
  · omega
  · exact (less_total h1 h2).symm
theorem Le.len {a b : Word} (h : Le a b) : a.length ≤ b.length := by rcases h with h | ⟨h, _⟩ <;> omega

theorem leads_least {o : Ord} {G : List Node} (I : Inv o G No) : ∀ n w i, w.length = n → Leads G 0 w i → Le (wd G i) w := by
  intro n
  induction n with
  | zero =>
    intro w i hw h
    cases w with
    | nil => cases h; rw [I.root]; exact Le.refl _
    | cons c w => cases hw
  | succ n ih =>
    intro w i hw h
    rcases List.eq_nil_or_concat w with rfl | ⟨a, c, rfl⟩
    · cases hw
    rw [List.concat_eq_append] at h hw ⊢
    have ha : a.length = n := by simp at hw; exact hw
    obtain ⟨k, h1, j, h2, h3⟩ := leads_append.1 h
    cases h3
    have h4 := ih a k ha h1
    have hl := h4.len
    cases hd : dnb G k c.toNat with
    | true =>
      have := (I.lo' (dn_some.2 ⟨hd, h2⟩)).2.2.2.2
      exact .inl (by simp; omega)
    | false =>
      have h5 := I.rise h2 hd
      obtain ⟨_, h6, h7, _⟩ := I.lo' h5.1
      have h8 := I.nf1 (fun h => h) h6 h7
      rw [ofNat_toNat] at h8
      rcases h4 with h4 | ⟨h4, h9⟩
      · exact .inl (by simp; omega)
      · refine .inr ⟨by simp; omega, ?_⟩
        refine less_trans h8 ?_
        rw [less_app [c] h4.symm]; exact h9

/-- n is the normal word of w. -/
structure IsNF (o : Ord) (w n : Word) : Prop where
  eqv : Eqv o n w
  least : ∀ w', Eqv o w' w → Le n w'

theorem nf_of_leads {o : Ord} (F : Fine o) {G : List Node} {w : Word} {i : Nat} (I : Inv o G No) (hw : Lets w) (h : Leads G 0 w i) : IsNF o w (wd G i) := by
  have hi := leads_lt I I.pos h
  refine ⟨(by simpa [I.root] using (leads_eqv I h).symm), fun w' hw' => ?_⟩
  obtain ⟨G', i', _, I', X', h', _⟩ := walk_ok F w' G 0 I I.pos ((same_tile F hw').1.2 hw) (Nat.le_refl _) (Nat.le_refl _)
  have := (same_tile F hw').2 G' 0 i' i I' I'.pos ((same_tile F hw').1.2 hw) h' (leads_ext X' h)
  subst this
  rw [← X'.hwd hi]
  exact leads_least I' _ w' i' rfl h'

theorem IsNF.uniq {o : Ord} {w n n' : Word} (h : IsNF o w n) (h' : IsNF o w n') : n = n' := (h.least _ h'.eqv).antisymm (h'.least _ h.eqv)
theorem IsNF.congr {o : Ord} {w w' n : Word} (h : IsNF o w n) (e : Eqv o w w') : IsNF o w' n := ⟨h.eqv.trans e, fun u hu => h.least u (hu.trans e.symm)⟩
theorem IsNF.eq_iff {o : Ord} {w w' n n' : Word} (h : IsNF o w n) (h' : IsNF o w' n') : n = n' ↔ Eqv o w w' :=
  ⟨fun e => by subst e; exact h.eqv.symm.trans h'.eqv, fun e => (h.congr e).uniq h'⟩
theorem IsNF.self {o : Ord} {w n : Word} (h : IsNF o w n) : IsNF o n n := h.congr h.eqv.symm
theorem IsNF.len {o : Ord} {w n : Word} (h : IsNF o w n) : n.length ≤ w.length := (h.least w (.refl w)).len

/-- The normal word of the program's graph. -/
theorem norm_ok {o : Ord} (F : Fine o) {fuel : Nat} {w : Word} (hw : Lets w) (h1 : w.length ≤ 1000) (h2 : w.length ≤ fuel) : ∃ n, norm o fuel w = some n ∧ IsNF o w n := by
  obtain ⟨G, y, h3, I, _, h4, _⟩ := walk_ok F (lim := 1000) (fuel := fuel) w start 0 (inv_start o) (by simp [start]) hw (by rw [show wd start 0 = [] from rfl]; simpa using h1) (by rw [show wd start 0 = [] from rfl]; simpa using h2)
  have hy := leads_lt I I.pos h4
  refine ⟨wd G y, ?_, nf_of_leads F I hw h4⟩
  unfold norm
  rw [walk_of_L _ _ _ _ _ _ h3]
  simp only
  rw [List.getElem?_eq_getElem hy]
  simp [wd, List.getElem?_eq_getElem hy]

theorem norm_some' {o : Ord} (F : Fine o) {fuel : Nat} {w n : Word} (hw : Lets w) (h1 : w.length ≤ 1000) (h2 : w.length ≤ fuel) (h : norm o fuel w = some n) : IsNF o w n := by
  obtain ⟨n', h3, h4⟩ := norm_ok F hw h1 h2
  cases h.symm.trans h3; exact h4

/-- A word turned about is the inverse. -/
theorem Eqv.inv {o : Ord} : ∀ {w : Word}, Lets w → Eqv o (w.reverse ++ w) [] ∧ Eqv o (w ++ w.reverse) []
  | [], _ => ⟨.refl _, .refl _⟩
  | c :: w, h => by
    have hw : Lets w := fun d hd => h d (List.mem_cons_of_mem _ hd)
    have hc : c.toNat < 3 := h c List.mem_cons_self
    obtain ⟨h1, h2⟩ := Eqv.inv (o := o) hw
    constructor
    · have := Eqv.two (o := o) w.reverse w hc
      rw [ofNat_toNat] at this
      refine Eqv.trans ?_ (this.trans h1)
      simpa using Eqv.refl _
    · have h3 := h2.ctx [c] [c]
      have := Eqv.two (o := o) [] [] hc
      rw [ofNat_toNat] at this
      refine Eqv.trans ?_ this
      simpa using h3

theorem Eqv.cancel {o : Ord} {u v w : Word} (hu : Lets u) : Eqv o (u ++ v) (u ++ w) ↔ Eqv o v w := by
  constructor
  · intro h
    have h1 := h.left u.reverse
    have h2 := fun (x : Word) => (Eqv.inv (o := o) hu).1.right x
    have h3 := (h2 v).symm
    have h4 := h2 w
    simp only [List.append_assoc, List.nil_append] at h3 h4
    exact h3.trans (h1.trans h4)
  · exact Eqv.left u

/-- Allowed orders are those of a triangle of the hyperbolic plane. -/
def fineB (p q r : Nat) : Bool :=
  let ok := fun a b c => a != 2 || ((b == 0 || 4 ≤ b) && (c == 0 || 4 ≤ c)) || (b == 3 && (c == 0 || 6 ≤ c)) || (c == 3 && (b == 0 || 6 ≤ b))
  p != 1 && q != 1 && r != 1 && ok p q r && ok q p r && ok r p q && decide (27720 / q + 27720 / r + 27720 / p < 27720)

theorem fineB_all : ∀ p : Nat, p < 13 → ∀ q : Nat, q < 13 → ∀ r : Nat, r < 13 → ordErr (p : Int) (q : Int) (r : Int) = 0 → fineB p q r = true := by decide +kernel

theorem fine_of {a b c : Int} (h : ordErr a b c = 0) : Fine (toOrd a b c) := by
  obtain ⟨h1, h2, h3⟩ := ordErr_zero h
  have h4 := fineB_all a.toNat (by omega) b.toNat (by omega) c.toNat (by omega) (by rw [Int.toNat_of_nonneg h1.1, Int.toNat_of_nonneg h2.1, Int.toNat_of_nonneg h3.1]; exact h)
  unfold fineB at h4
  simp only [Bool.and_eq_true, Bool.or_eq_true, bne_iff_ne, beq_iff_eq, decide_eq_true_eq] at h4
  obtain ⟨⟨⟨⟨⟨⟨p1, p2⟩, p3⟩, p4⟩, p5⟩, p6⟩, p7⟩ := h4
  constructor
  · intro i j
    unfold Ord.m toOrd
    simp only
    split
    · omega
    · split <;> omega
  · exact p7
  · intro i j hi hj hij
    unfold Ord.m toOrd
    simp only
    by_cases e1 : i + j = 1
    · rw [if_pos e1]; exact p1
    · rw [if_neg e1]
      by_cases e2 : i + j = 2
      · rw [if_pos e2]; exact p3
      · rw [if_neg e2]; exact p2
  · intro i j k T hm
    obtain ⟨t1, t2, t3, t4, t5, t6⟩ := T
    have key : (i + j = 1 ∧ k = 2) ∨ (i + j = 2 ∧ k = 1) ∨ (i + j = 3 ∧ k = 0) := by omega
    unfold Ord.m toOrd at hm ⊢
    simp only at hm ⊢
    have hi : i = 0 ∨ i = 1 ∨ i = 2 := by omega
    have hj : j = 0 ∨ j = 1 ∨ j = 2 := by omega
    rcases hi with rfl | rfl | rfl <;> rcases hj with rfl | rfl | rfl <;> rcases key with ⟨e1, rfl⟩ | ⟨e1, rfl⟩ | ⟨e1, rfl⟩ <;> simp at e1 t4 hm ⊢ <;> omega

/-- The graph that a word makes has few tiles. -/
theorem walk_few {o : Ord} (F : Fine o) {w : Word} (hw : Lets w) (h1 : w.length ≤ 1000) : ∃ G y n, walkL 1000 o 1000 start 0 w = some (G, y) ∧ G[y]? = some n ∧ IsNF o w n.word ∧ G.length ≤ 100000000 := by
  obtain ⟨G, y, h3, I, _, h4, gg⟩ := walk_ok F (lim := 1000) (fuel := 1000) w start 0 (inv_start o) (by simp [start]) hw (by rw [show wd start 0 = [] from rfl]; simpa using h1) (by rw [show wd start 0 = [] from rfl]; simpa using h1)
  have hy := leads_lt I I.pos h4
  refine ⟨G, y, G[y], h3, List.getElem?_eq_getElem hy, by have := nf_of_leads F I hw h4; rwa [wd_some (List.getElem?_eq_getElem hy)] at this, ?_⟩
  obtain ⟨c, D, g, hD⟩ := gg _ _ (gh_start o)
  have hp : ∀ u, u < 3 → 0 ≤ part o u ∧ part o u ≤ 13860 := fun u hu => by
    have h2 : mu o u ≠ 1 := by
      unfold mu
      have : u = 0 ∨ u = 1 ∨ u = 2 := by omega
      rcases this with rfl | rfl | rfl
      · exact F.one 1 2 (by omega) (by omega) (by omega)
      · exact F.one 0 2 (by omega) (by omega) (by omega)
      · exact F.one 0 1 (by omega) (by omega) (by omega)
    unfold part
    refine ⟨Int.natCast_nonneg _, ?_⟩
    have : 27720 / mu o u ≤ 13860 := by
      rcases Nat.lt_or_ge (mu o u) 1 with h | h
      · have : mu o u = 0 := by omega
        rw [this]; decide
      · exact Nat.div_le_of_le_mul (by omega)
    omega
  have hang : part o 0 + part o 1 + part o 2 < 27720 := by
    have := F.ang
    have e0 : mu o 0 = o.m12 := rfl
    have e1 : mu o 1 = o.m02 := rfl
    have e2 : mu o 2 = o.m01 := rfl
    unfold part
    rw [e0, e1, e2]
    omega
  have := g.few hang hp (fun i hi h0 => by
    obtain ⟨s, j, _, h6, _⟩ := I.nf2 (fun h => h) hi h0
    have hs := (I.sym h6).1
    have e : ∀ r, 0 ≤ ed G i r := fun r => by unfold ed; split <;> simp
    have e1 : ed G i s = 1 := by unfold ed; rw [h6]; rfl
    have e00 := e 0
    have e01 := e 1
    have e02 := e 2
    unfold dg
    have : s = 0 ∨ s = 1 ∨ s = 2 := by omega
    rcases this with rfl | rfl | rfl <;> omega) I.pos
  omega

end Hy

