import Derived.Test.YtdckpjagmbdkgaaNf

/- Plain Lean: the tiles around a corner. -/
set_option linter.unusedSimpArgs false
set_option linter.unusedVariables false
namespace Hy

/-- Down to the tile from which neither side leads down. -/
def bot (G : List Node) (j k : Nat) : Nat → Nat → Nat
  | 0, x => x
  | f + 1, x => if dnb G x j = true then bot G j k f ((tod G x j).getD 0) else if dnb G x k = true then bot G j k f ((tod G x k).getD 0) else x

/-- The normal word. -/
def nfw (o : Ord) (w : Word) : Word := (norm o 1000 w).getD []
/-- Normal words along a circle. -/
def circW (o : Ord) (w : Word) (f s n : Nat) : List Word := (List.range n).map fun i => nfw o (w ++ V i f s)
/-- The first of the shortest. -/
def shortest (l : List Word) : Word := l.foldl (fun b x => if x.length < b.length then x else b) (l.headD [])
def aroundW (o : Ord) (w : Word) (f s : Nat) : List Word := circW o (shortest (circW o w f s (2 * o.m f s))) f s (2 * o.m f s)

/-- y lies around the corner of z. -/
def InC (G : List Node) (m j k z y : Nat) : Prop := ∃ n, n ≤ m ∧ (Dch G n y j k z ∨ Dch G n y k j z)
theorem InC.swap {G : List Node} {m j k z y : Nat} (h : InC G m j k z y) : InC G m k j z y := by
  obtain ⟨n, h1, h2⟩ := h; exact ⟨n, h1, h2.symm⟩

section
variable {o : Ord} {G : List Node}

theorem bot_ok (I : Inv o G No) {j k : Nat} : ∀ f x, (wd G x).length ≤ f → ∃ n, (Dch G n x j k (bot G j k f x) ∨ Dch G n x k j (bot G j k f x)) ∧ dnb G (bot G j k f x) j = false ∧ dnb G (bot G j k f x) k = false
  | 0, x, h => by
    have key : ∀ s, dnb G x s = false := fun s => by
      cases hs : dnb G x s with
      | false => rfl
      | true => obtain ⟨y, hy⟩ := I.lo_of hs; have := (I.lo' hy).2.2.2.2; omega
    exact ⟨0, .inl rfl, key j, key k⟩
  | f + 1, x, h => by
    unfold bot
    have step : ∀ {c d : Nat}, dnb G x c = true → ∃ y, dn G x c = some y ∧ tod G x c = some y ∧ (wd G y).length ≤ f ∧ dnb G y c = false := fun {c d} hc => by
      obtain ⟨y, hy⟩ := I.lo_of hc
      have h1 := I.lo' hy
      exact ⟨y, hy, h1.2.2.1, by omega, I.one h1.2.2.1 hc⟩
    have go : ∀ {c d z y : Nat}, dn G x c = some y → dnb G y c = false → (∃ n, Dch G n y c d z ∨ Dch G n y d c z) → ∃ n, Dch G n x c d z := by
      rintro c d z y h1 h2 ⟨n, h3 | h3⟩
      · cases n with
        | zero => cases h3; exact ⟨1, _, h1, rfl⟩
        | succ n =>
          obtain ⟨y', h4, _⟩ := h3
          rw [(I.lo' h4).2.1] at h2; cases h2
      · exact ⟨n + 1, y, h1, h3⟩
    by_cases hj : dnb G x j = true
    · obtain ⟨y, h1, h2, h3, h4⟩ := step (d := k) hj
      rw [if_pos hj, h2, Option.getD_some]
      obtain ⟨n, h5, h6, h7⟩ := bot_ok I f y h3 (j := j) (k := k)
      obtain ⟨n', h8⟩ := go h1 h4 ⟨n, h5⟩
      exact ⟨n', .inl h8, h6, h7⟩
    · rw [if_neg hj]
      by_cases hk : dnb G x k = true
      · obtain ⟨y, h1, h2, h3, h4⟩ := step (d := j) hk
        rw [if_pos hk, h2, Option.getD_some]
        obtain ⟨n, h5, h6, h7⟩ := bot_ok I f y h3 (j := j) (k := k)
        obtain ⟨n', h8⟩ := go h1 h4 ⟨n, h5.symm⟩
        exact ⟨n', .inr h8, h6, h7⟩
      · rw [if_neg hk]
        exact ⟨0, .inl rfl, by simpa using hj, by simpa using hk⟩

theorem chain_small (I : Inv o G No) {x c d k v : Nat} (hc : c < 3) (hd : d < 3) (hcd : c ≠ d) (hm : 0 < o.m c d) (h1 : Dch G k x c d v) (h2 : dnb G v c = false) (h3 : dnb G v d = false) : k ≤ o.m c d := by
  rcases Nat.lt_or_ge (o.m c d) k with hk | hk
  · exfalso
    have pre : ∀ {m k x c d v : Nat}, m ≤ k → Dch G k x c d v → ∃ w, Dch G m x c d w := by
      intro m
      induction m with
      | zero => intro k x c d v _ _; exact ⟨x, rfl⟩
      | succ m ih =>
        intro k x c d v hk h
        obtain ⟨k, rfl⟩ : ∃ k', k = k' + 1 := ⟨k - 1, by omega⟩
        obtain ⟨j, h1, h2⟩ := h
        obtain ⟨w, h3⟩ := ih (Nat.le_of_succ_le_succ hk) h2
        exact ⟨w, j, h1, h3⟩
    obtain ⟨w, hw⟩ := pre (Nat.le_of_lt hk) h1
    have h4 := I.full (a := c) (b := d) id hcd hc hd hm hw
    have h5 : dnb G x c = true := by
      obtain ⟨m, hm2⟩ : ∃ m, o.m c d = m + 1 := ⟨o.m c d - 1, by omega⟩
      rw [hm2] at hw
      obtain ⟨j, h6, _⟩ := hw
      exact (I.lo' h6).2.1
    obtain ⟨_, v', h6, _, h7, h8⟩ := I.top h5 h4 hcd
    cases Dch_fun h6 hw
    obtain ⟨e, j, h9, h10⟩ := Dch_next hk hw h1
    have := (I.lo' h10).2.1
    rcases h9 with rfl | rfl
    · rw [h7] at this; cases this
    · rw [h8] at this; cases this
  · exact hk

theorem bot_in (I : Inv o G No) {j k : Nat} (hj : j < 3) (hk : k < 3) (hjk : j ≠ k) (hm : 0 < o.m j k) {f x : Nat} (hf : (wd G x).length ≤ f) : InC G (o.m j k) j k (bot G j k f x) x ∧ dnb G (bot G j k f x) j = false ∧ dnb G (bot G j k f x) k = false := by
  obtain ⟨n, h1, h2, h3⟩ := bot_ok I (j := j) (k := k) f x hf
  refine ⟨⟨n, ?_, h1⟩, h2, h3⟩
  rcases h1 with h1 | h1
  · exact chain_small I hj hk hjk hm h1 h2 h3
  · rw [o.m_comm]; exact chain_small I hk hj hjk.symm (by rw [o.m_comm]; exact hm) h1 h3 h2

/-- One step around the corner. -/
theorem in_step (I : Inv o G No) {z y y' c d e : Nat} (hc : c < 3) (hd : d < 3) (hcd : c ≠ d) (hm : 0 < o.m c d) (hz1 : dnb G z c = false) (hz2 : dnb G z d = false) (he : e = c ∨ e = d) {n : Nat} (hn : n ≤ o.m c d) (h : Dch G n y c d z) (ht : tod G y e = some y') : InC G (o.m c d) c d z y' := by
  have up : ∀ {a : Nat}, dnb G y a = false → tod G y a = some y' → dn G y' a = some y := fun {a} h1 h2 => dn_some.2 ⟨I.up h2 h1, (I.sym h2).2⟩
  cases n with
  | zero =>
    cases h
    rcases he with rfl | rfl
    · exact ⟨1, hm, .inl ⟨_, up hz1 ht, rfl⟩⟩
    · exact ⟨1, hm, .inr ⟨_, up hz2 ht, rfl⟩⟩
  | succ n =>
    obtain ⟨y1, h1, h2⟩ := id h
    rcases he with rfl | rfl
    · cases (dn_some.1 h1).2.symm.trans ht
      exact ⟨n, by omega, .inr h2⟩
    · by_cases hd1 : dnb G y e = true
      · obtain ⟨_, v, h3, h4, h5, h6⟩ := I.top (I.lo' h1).2.1 hd1 hcd
        have hnm : n + 1 = o.m c e := by
          rcases Nat.lt_or_ge (n + 1) (o.m c e) with hlt | hge
          · obtain ⟨a, j, h7, h8⟩ := Dch_next hlt h h3
            have := (I.lo' h8).2.1
            rcases h7 with rfl | rfl
            · rw [hz1] at this; cases this
            · rw [hz2] at this; cases this
          · omega
        rw [← hnm] at h3 h4
        cases Dch_fun h3 h
        obtain ⟨y2, h7, h8⟩ := h4
        cases (dn_some.1 h7).2.symm.trans ht
        exact ⟨n, by omega, .inl h8⟩
      · have hd2 : dnb G y e = false := by simpa using hd1
        rcases Nat.lt_or_ge (n + 1) (o.m c e) with hlt | hge
        · exact ⟨n + 2, hlt, .inr ⟨y, up hd2 ht, h⟩⟩
        · exfalso
          have : n + 1 = o.m c e := by omega
          rw [this] at h
          rw [I.full (a := c) (b := e) id hcd hc hd hm h] at hd2
          cases hd2

theorem InC.step (I : Inv o G No) {z y y' j k e : Nat} (hj : j < 3) (hk : k < 3) (hjk : j ≠ k) (hm : 0 < o.m j k) (hz1 : dnb G z j = false) (hz2 : dnb G z k = false) (he : e = j ∨ e = k) (h : InC G (o.m j k) j k z y) (ht : tod G y e = some y') : InC G (o.m j k) j k z y' := by
  obtain ⟨n, hn, h | h⟩ := h
  · exact in_step I hj hk hjk hm hz1 hz2 he hn h ht
  · have := in_step I hk hj hjk.symm (by rw [o.m_comm]; exact hm) hz2 hz1 he.symm (by rw [o.m_comm]; exact hn) h ht
    rw [o.m_comm] at this
    exact this.swap

theorem InC.leads (I : Inv o G No) {z j k : Nat} (hj : j < 3) (hk : k < 3) (hjk : j ≠ k) (hm : 0 < o.m j k) (hz1 : dnb G z j = false) (hz2 : dnb G z k = false) : ∀ {i f s y y' : Nat}, (f = j ∧ s = k ∨ f = k ∧ s = j) → InC G (o.m j k) j k z y → Leads G y (V i f s) y' → InC G (o.m j k) j k z y'
  | 0, f, s, y, y', _, h, hl => by cases hl; exact h
  | i + 1, f, s, y, y', hfs, h, hl => by
    have hf : f < 3 := by rcases hfs with ⟨rfl, rfl⟩ | ⟨rfl, rfl⟩ <;> assumption
    obtain ⟨y1, h1, h2⟩ := (leads_letter hf).1 hl
    exact InC.leads I hj hk hjk hm hz1 hz2 (by rcases hfs with ⟨rfl, rfl⟩ | ⟨rfl, rfl⟩; exact .inr ⟨rfl, rfl⟩; exact .inl ⟨rfl, rfl⟩) (h.step I hj hk hjk hm hz1 hz2 (by rcases hfs with ⟨rfl, _⟩ | ⟨rfl, _⟩; exact .inl rfl; exact .inr rfl) h1) h2

/-- The first tile is the shortest one. -/
theorem InC.short (I : Inv o G No) {m j k z y : Nat} (h : InC G m j k z y) : y = z ∨ (wd G z).length < (wd G y).length := by
  obtain ⟨n, _, h | h⟩ := h
  all_goals
    have := Dch_len I h
    cases n with
    | zero => cases h; exact .inl rfl
    | succ n => exact .inr (by omega)

theorem Dch_leads : ∀ {n x c d v : Nat}, c < 3 → d < 3 → Dch G n x c d v → Leads G x (V n c d) v
  | 0, _, _, _, _, _, _, h => h
  | n + 1, x, c, d, v, hc, hd, ⟨j, h1, h2⟩ => (leads_letter hc).2 ⟨j, (dn_some.1 h1).2, Dch_leads hd hc h2⟩

theorem leads_rev (I : Inv o G No) : ∀ {w : Word} {x y : Nat}, Leads G x w y → Leads G y w.reverse x
  | [], _, _, h => h.symm
  | c :: w, x, y, ⟨j, h1, h2⟩ => by
    rw [List.reverse_cons]
    exact leads_append.2 ⟨j, leads_rev I h2, x, (I.sym h1).2, rfl⟩
theorem V_rev : ∀ (n a b : Nat), (V n a b).reverse = if n % 2 = 0 then V n b a else V n a b
  | 0, _, _ => rfl
  | n + 1, a, b => by
    have e := V_add n 1 b a
    rw [V, List.reverse_append, V_rev n b a]
    have hl : (letter a).reverse = letter a := rfl
    rw [hl]
    by_cases h : n % 2 = 0
    · rw [if_pos h, if_neg (by omega)]
      have e := V_add n 1 a b
      rw [if_pos h] at e
      exact e.symm
    · rw [if_neg h, if_pos (by omega)]
      have e := V_add n 1 b a
      rw [if_neg h] at e
      exact e.symm
theorem leads_take {y y' f s : Nat} {i n : Nat} (hi : i ≤ n) (h : Leads G y (V n f s) y') : ∃ t, Leads G y (V i f s) t := by
  have e : V n f s = V i f s ++ V (n - i) (alt i f s) (alt i s f) := by
    have := V_alt i (n - i) f s
    rw [show i + (n - i) = n by omega] at this
    exact this
  rw [e] at h
  obtain ⟨t, h1, _⟩ := leads_append.1 h
  exact ⟨t, h1⟩

/-- The first tile is met on the way around. -/
theorem InC.met (I : Inv o G No) {f s z x : Nat} (hf : f < 3) (hs : s < 3) (hfs : f ≠ s) (hm : 0 < o.m f s) (h : InC G (o.m f s) f s z x) {y' : Nat} (hc : Leads G x (V (2 * o.m f s) f s) y') : ∃ i, i < 2 * o.m f s ∧ Leads G x (V i f s) z := by
  have e2 : 2 * o.m f s = o.m f s + o.m f s := by omega
  have hx : y' = x := closed I hf hs hfs hm (by rw [← e2]; exact hc)
  obtain ⟨n, hn, h | h⟩ := h
  · exact ⟨n, by omega, Dch_leads hf hs h⟩
  · rcases Nat.eq_zero_or_pos n with rfl | hn0
    · cases h; exact ⟨0, by omega, rfl⟩
    · refine ⟨2 * o.m f s - n, by omega, ?_⟩
      have e := V_alt (2 * o.m f s - n) n f s
      rw [show 2 * o.m f s - n + n = 2 * o.m f s by omega] at e
      rw [e] at hc
      obtain ⟨y0, h1, h2⟩ := leads_append.1 hc
      rw [hx] at h2
      have h3 := leads_rev I h2
      rw [V_rev] at h3
      have h4 : Leads G x (V n s f) y0 := by
        by_cases hp : n % 2 = 0
        · have hp2 : (2 * o.m f s - n) % 2 = 0 := by omega
          rw [if_pos hp, alt_even hp2, alt_even hp2] at h3
          exact h3
        · have hp2 : ¬ (2 * o.m f s - n) % 2 = 0 := by omega
          rw [if_neg hp] at h3
          unfold alt at h3
          rw [if_neg hp2, if_neg hp2] at h3
          exact h3
      cases leads_fun h4 (Dch_leads hs hf h)
      exact h1
end

theorem V_lets : ∀ {n f s : Nat}, f < 3 → s < 3 → Lets (V n f s)
  | 0, _, _, _, _ => fun c hc => by simp [V] at hc
  | n + 1, f, s, hf, hs => Lets.app.2 ⟨fun c hc => by simp [letter] at hc; subst hc; simp; omega, V_lets hs hf⟩
theorem V_length : ∀ (n f s : Nat), (V n f s).length = n
  | 0, _, _ => rfl
  | n + 1, f, s => by rw [V, List.length_append, V_length n s f]; simp [letter]; omega

/-- A normal word, by any graph. -/
theorem nfw_leads {o : Ord} (F : Fine o) {G : List Node} (I : Inv o G No) {w : Word} {i : Nat} (hw : Lets w) (hl : w.length ≤ 1000) (h : Leads G 0 w i) : nfw o w = wd G i := by
  obtain ⟨n, h1, h2⟩ := norm_ok F (fuel := 1000) hw hl hl
  unfold nfw
  rw [h1, Option.getD_some]
  exact h2.uniq (nf_of_leads F I hw h)

theorem length_circW {o : Ord} {w : Word} {f s n : Nat} : (circW o w f s n).length = n := by simp [circW]
theorem circW_get {o : Ord} {w : Word} {f s n i : Nat} (hi : i < n) : (circW o w f s n)[i]? = some (nfw o (w ++ V i f s)) := by
  simp [circW, List.getElem?_map, List.getElem?_range hi]

theorem shortest_ok {l : List Word} {u : Word} (hu : u ∈ l) (h : ∀ v ∈ l, v = u ∨ u.length < v.length) : shortest l = u := by
  have go : ∀ (m : List Word) (b : Word), (∀ v ∈ m, v = u ∨ u.length < v.length) → (b = u ∨ u.length < b.length ∧ u ∈ m) → m.foldl (fun b x => if x.length < b.length then x else b) b = u := by
    intro m
    induction m with
    | nil => rintro b _ (rfl | ⟨_, h⟩); rfl; simp at h
    | cons x m ih =>
      intro b hm hb
      rw [List.foldl_cons]
      refine ih _ (fun v hv => hm v (List.mem_cons_of_mem _ hv)) ?_
      have hx := hm x List.mem_cons_self
      rcases hb with rfl | ⟨h1, h2⟩
      · left
        rcases hx with rfl | hx
        · simp
        · rw [if_neg (by omega)]
      · rcases List.mem_cons.1 h2 with rfl | h2
        · left; rw [if_pos h1]
        · split
          · rcases hx with rfl | hx
            · exact .inl rfl
            · exact .inr ⟨hx, h2⟩
          · exact .inr ⟨h1, h2⟩
  unfold shortest
  cases l with
  | nil => cases hu
  | cons a l =>
    refine go _ _ h ?_
    rcases h a List.mem_cons_self with h1 | h1
    · exact .inl h1
    · exact .inr ⟨h1, hu⟩

section
variable {o : Ord} {G : List Node}
/-- The shortest word around a corner. -/
theorem short_ok (F : Fine o) (I : Inv o G No) {f s z x : Nat} (hf : f < 3) (hs : s < 3) (hfs : f ≠ s) (hm : 0 < o.m f s) (hz1 : dnb G z f = false) (hz2 : dnb G z s = false) (hin : InC G (o.m f s) f s z x) {u : Word} (hu : Lets u) (hul : u.length ≤ 900) (hl : Leads G 0 u x) {y' : Nat} (hc : Leads G x (V (2 * o.m f s) f s) y') :
    shortest (circW o u f s (2 * o.m f s)) = wd G z := by
  have hm12 := F.le f s
  have at_ : ∀ {i t}, i ≤ 2 * o.m f s → Leads G x (V i f s) t → nfw o (u ++ V i f s) = wd G t := fun {i t} hi ht =>
    nfw_leads F I (Lets.app.2 ⟨hu, V_lets hf hs⟩) (by rw [List.length_append, V_length]; omega) (leads_append.2 ⟨x, hl, ht⟩)
  obtain ⟨i, hi, hz⟩ := hin.met I hf hs hfs hm hc
  refine shortest_ok ?_ ?_
  · refine List.mem_of_getElem? (i := i) ?_
    rw [circW_get hi, at_ (by omega) hz]
  · intro v hv
    obtain ⟨j, hj⟩ := List.getElem?_of_mem hv
    have hj2 : j < 2 * o.m f s := by
      rcases Nat.lt_or_ge j (2 * o.m f s) with h | h
      · exact h
      · rw [List.getElem?_eq_none (by rw [length_circW]; exact h)] at hj; cases hj
    rw [circW_get hj2] at hj
    cases hj
    obtain ⟨t, ht⟩ := leads_take (by omega : j ≤ 2 * o.m f s) hc
    rw [at_ (by omega) ht]
    rcases (InC.leads I hf hs hfs hm hz1 hz2 (.inl ⟨rfl, rfl⟩) hin ht).short I with rfl | h
    · exact .inl rfl
    · exact .inr h
end

/-- A graph that holds what is wanted. -/
theorem grow_to {o : Ord} (F : Fine o) {G : List Node} (I : Inv o G No) {x : Nat} (hx : x < G.length) {w : Word} (hw : Lets w) : ∃ G' y b, Inv o G' No ∧ Ext G G' b ∧ Leads G' x w y := by
  obtain ⟨G', y, _, I', X, h, _⟩ := walk_ok F (lim := (wd G x).length + w.length) (fuel := (wd G x).length + w.length) w G x I hx hw (Nat.le_refl _) (Nat.le_refl _)
  exact ⟨G', y, _, I', X, h⟩

theorem own_leads {o : Ord} (F : Fine o) {G : List Node} (I : Inv o G No) {u : Word} {t x' : Nat} (hu : Lets u) (h : Leads G 0 u t) (h' : Leads G 0 (wd G t) x') : x' = t := by
  have e := leads_eqv I h
  rw [I.root, List.nil_append] at e
  exact ((same_tile F e).2 G 0 t x' I I.pos hu h h').symm

theorem bot_ext {G G' : List Node} {b : Nat} (X : Ext G G' b) {z : Nat} (hz : z < G.length) {c : Nat} (h : dnb G z c = false) : dnb G' z c = false := by rw [X.hdnb hz]; exact h
theorem Dch_ext {o : Ord} {G G' : List Node} {b : Nat} (I : Inv o G No) (X : Ext G G' b) : ∀ {n x c d v : Nat}, x < G.length → Dch G n x c d v → Dch G' n x c d v
  | 0, _, _, _, _, _, h => h
  | n + 1, x, c, d, v, hx, ⟨j, h1, h2⟩ => ⟨j, dn_some.2 ⟨by rw [X.hdnb hx]; exact (dn_some.1 h1).1, X.htod (dn_some.1 h1).2⟩, Dch_ext I X (tod_lt (I.lo' h1).2.2.2.1) h2⟩
theorem InC.ext {o : Ord} {G G' : List Node} {b m j k z y : Nat} (I : Inv o G No) (X : Ext G G' b) (hy : y < G.length) (h : InC G m j k z y) : InC G' m j k z y := by
  obtain ⟨n, hn, h⟩ := h
  exact ⟨n, hn, h.imp (Dch_ext I X hy) (Dch_ext I X hy)⟩
theorem InC.lt {o : Ord} {G : List Node} {m j k z y : Nat} (I : Inv o G No) (hy : y < G.length) (h : InC G m j k z y) : z < G.length := by
  obtain ⟨n, hn, h | h⟩ := h <;> exact Dch_lt I hy h

/-- THE LAW: the words around a corner, from any of its tiles on. -/
theorem around_ok {o : Ord} (F : Fine o) {G : List Node} (I : Inv o G No) {f s z x : Nat} (hf : f < 3) (hs : s < 3) (hfs : f ≠ s) (hm : 0 < o.m f s) (hx : x < G.length) (hz1 : dnb G z f = false) (hz2 : dnb G z s = false) (hin : InC G (o.m f s) f s z x) {u : Word} (hu : Lets u) (hul : u.length ≤ 900) (hl : Leads G 0 u x) :
    shortest (circW o u f s (2 * o.m f s)) = wd G z ∧ aroundW o u f s = circW o (wd G z) f s (2 * o.m f s) ∧ ∀ i t, i < 2 * o.m f s → Leads G z (V i f s) t → (aroundW o u f s)[i]? = some (wd G t) := by
  have hzl := hin.lt I hx
  have hzw : Lets (wd G z) := I.lets z
  have hm12 := F.le f s
  obtain ⟨G1, y1, b1, I1, X1, c1⟩ := grow_to F I hx (V_lets hf hs (n := 2 * o.m f s))
  have s1 := short_ok F I1 hf hs hfs hm (bot_ext X1 hzl hz1) (bot_ext X1 hzl hz2) (hin.ext I X1 hx) hu hul (leads_ext X1 hl) c1
  rw [X1.hwd hzl] at s1
  have e : aroundW o u f s = circW o (wd G z) f s (2 * o.m f s) := by unfold aroundW; rw [s1]
  refine ⟨s1, e, fun i t hi ht => ?_⟩
  rw [e, circW_get hi]
  -- the word of z leads to z
  obtain ⟨G2, y2, b2, I2, X2, c2⟩ := grow_to F I I.pos hzw
  have hy2 : y2 = z := by
    have hzu : ∃ v, Lets v ∧ Leads G 0 v z := by
      obtain ⟨n, _, h | h⟩ := hin
      · exact ⟨u ++ V n f s, Lets.app.2 ⟨hu, V_lets hf hs⟩, leads_append.2 ⟨x, hl, Dch_leads hf hs h⟩⟩
      · exact ⟨u ++ V n s f, Lets.app.2 ⟨hu, V_lets hs hf⟩, leads_append.2 ⟨x, hl, Dch_leads hs hf h⟩⟩
    obtain ⟨v, hv1, hv2⟩ := hzu
    exact own_leads F I2 hv1 (leads_ext X2 hv2) (by rw [X2.hwd hzl]; exact c2)
  rw [hy2] at c2
  have hle : (wd G z).length ≤ u.length + o.m f s := by
    obtain ⟨n, hn, h⟩ := hin
    have h1 : (wd G x).length = (wd G z).length + n := by rcases h with h | h <;> exact Dch_len I h
    have h2 := (nf_of_leads F I hu hl).len
    omega
  rw [nfw_leads F I2 (Lets.app.2 ⟨hzw, V_lets hf hs⟩) (by rw [List.length_append, V_length]; omega) (leads_append.2 ⟨z, c2, leads_ext X2 ht⟩), X2.hwd (leads_lt I hzl ht)]

theorem length_aroundW {o : Ord} {u : Word} {f s : Nat} : (aroundW o u f s).length = 2 * o.m f s := length_circW

/-- The same for each tile around it. -/
theorem around_same {o : Ord} (F : Fine o) {f s : Nat} (hf : f < 3) (hs : s < 3) (hfs : f ≠ s) (hm : 0 < o.m f s) {u v : Word} (hu : Lets u) (hul : u.length ≤ 800) (hv : v ∈ aroundW o u f s) : aroundW o v f s = aroundW o u f s ∧ Lets v ∧ v.length ≤ 900 := by
  obtain ⟨G0, x, b0, I0, _, l0⟩ := grow_to F (inv_start o) (x := 0) (by simp [start]) hu
  have hx := leads_lt I0 I0.pos l0
  obtain ⟨hin, hz1, hz2⟩ := bot_in I0 hf hs hfs hm (Nat.le_refl (wd G0 x).length)
  generalize bot G0 f s (wd G0 x).length x = z at hin hz1 hz2
  have hzl := hin.lt I0 hx
  obtain ⟨G1, y1, b1, I1, X1, c1⟩ := grow_to F I0 hzl (V_lets hf hs (n := 2 * o.m f s))
  have hx1 : x < G1.length := Nat.lt_of_lt_of_le hx X1.len
  have hin1 := hin.ext I0 X1 hx
  have hl1 := leads_ext X1 l0
  obtain ⟨a1, a2, a3⟩ := around_ok F I1 hf hs hfs hm hx1 (bot_ext X1 hzl hz1) (bot_ext X1 hzl hz2) hin1 hu (by omega) hl1
  obtain ⟨i, hi⟩ := List.getElem?_of_mem hv
  have hi2 : i < 2 * o.m f s := by
    rcases Nat.lt_or_ge i (2 * o.m f s) with h | h
    · exact h
    · rw [List.getElem?_eq_none (by rw [length_aroundW]; exact h)] at hi; cases hi
  obtain ⟨t, ht⟩ := leads_take (by omega : i ≤ 2 * o.m f s) c1
  have hv2 := a3 i t hi2 ht
  rw [hi] at hv2
  cases hv2
  have hzl1 : z < G1.length := Nat.lt_of_lt_of_le hzl X1.len
  have htl := leads_lt I1 hzl1 ht
  have hint : InC G1 (o.m f s) f s z t := InC.leads I1 hf hs hfs hm (bot_ext X1 hzl hz1) (bot_ext X1 hzl hz2) (.inl ⟨rfl, rfl⟩) ⟨0, by omega, .inl rfl⟩ ht
  have htw : Lets (wd G1 t) := I1.lets t
  have hlen : (wd G1 t).length ≤ 900 := by
    obtain ⟨n, hn, h⟩ := hint
    have h1 : (wd G1 t).length = (wd G1 z).length + n := by rcases h with h | h <;> exact Dch_len I1 h
    obtain ⟨n', hn', h'⟩ := hin1
    have h1' : (wd G1 x).length = (wd G1 z).length + n' := by rcases h' with h' | h' <;> exact Dch_len I1 h'
    have h2 := (nf_of_leads F I1 hu hl1).len
    have := F.le f s
    omega
  refine ⟨?_, htw, hlen⟩
  have hzu : ∃ v, Lets v ∧ Leads G1 0 v z := by
    obtain ⟨n, _, h | h⟩ := hin1
    · exact ⟨u ++ V n f s, Lets.app.2 ⟨hu, V_lets hf hs⟩, leads_append.2 ⟨x, hl1, Dch_leads hf hs h⟩⟩
    · exact ⟨u ++ V n s f, Lets.app.2 ⟨hu, V_lets hs hf⟩, leads_append.2 ⟨x, hl1, Dch_leads hs hf h⟩⟩
  obtain ⟨p, hp1, hp2⟩ := hzu
  obtain ⟨G2, y2, b2, I2, X2, c2⟩ := grow_to F I1 I1.pos htw
  have hy2 : y2 = t := own_leads F I2 (Lets.app.2 ⟨hp1, V_lets hf hs (n := i)⟩) (leads_ext X2 (leads_append.2 ⟨z, hp2, ht⟩)) (by rw [X2.hwd htl]; exact c2)
  rw [hy2] at c2
  obtain ⟨_, d2, _⟩ := around_ok F I2 hf hs hfs hm (Nat.lt_of_lt_of_le htl X2.len) (bot_ext X2 hzl1 (bot_ext X1 hzl hz1)) (bot_ext X2 hzl1 (bot_ext X1 hzl hz2)) (hint.ext I1 X2 htl) htw hlen c2
  rw [d2, a2, X2.hwd hzl1]
end Hy

/- Plain Lean: growing graphs with few tiles. -/
set_option linter.unusedSimpArgs false
set_option linter.unusedVariables false
namespace Hy

theorem gh_len {o : Ord} (F : Fine o) {G : List Node} (I : Inv o G No) {c : Nat → Nat → Bool} {D : Int} (g : Gh o G c D) : (G.length : Int) ≤ 27721 * D + 1 := by
  have hp : ∀ u, u < 3 → 0 ≤ part o u ∧ part o u ≤ 13860 := fun u hu => by
    have h2 : mu o u ≠ 1 := by
      unfold mu
      have : u = 0 ∨ u = 1 ∨ u = 2 := by omega
      rcases this with rfl | rfl | rfl
      · exact F.one 1 2 (by omega) (by omega) (by omega)
      · exact F.one 0 2 (by omega) (by omega) (by omega)
      · exact F.one 0 1 (by omega) (by omega) (by omega)
    unfold part
    refine ⟨Int.natCast_nonneg _, ?_⟩
    have : 27720 / mu o u ≤ 13860 := by
      rcases Nat.lt_or_ge (mu o u) 1 with h | h
      · have : mu o u = 0 := by omega
        rw [this]; decide
      · exact Nat.div_le_of_le_mul (by omega)
    omega
  have hang : part o 0 + part o 1 + part o 2 < 27720 := by
    have := F.ang
    have e0 : mu o 0 = o.m12 := rfl
    have e1 : mu o 1 = o.m02 := rfl
    have e2 : mu o 2 = o.m01 := rfl
    unfold part
    rw [e0, e1, e2]
    omega
  exact g.few hang hp (fun i hi h0 => by
    obtain ⟨s, j, _, h6, _⟩ := I.nf2 (fun h => h) hi h0
    have hs := (I.sym h6).1
    have e : ∀ r, 0 ≤ ed G i r := fun r => by unfold ed; split <;> simp
    have e1 : ed G i s = 1 := by unfold ed; rw [h6]; rfl
    have e00 := e 0
    have e01 := e 1
    have e02 := e 2
    unfold dg
    have : s = 0 ∨ s = 1 ∨ s = 2 := by omega
    rcases this with rfl | rfl | rfl <;> omega) I.pos

/-- A graph that has grown by few steps. -/
structure Gr (o : Ord) (G : List Node) (K : Nat) : Prop where
  inv : Inv o G No
  gh : ∃ c D, Gh o G c D ∧ D ≤ K
theorem Gr.begin (o : Ord) : Gr o start 0 := ⟨inv_start o, _, _, gh_start o, Int.le_refl _⟩
theorem Gr.len {o : Ord} (F : Fine o) {G : List Node} {K : Nat} (g : Gr o G K) : G.length ≤ 27721 * K + 1 := by
  obtain ⟨c, D, h, hD⟩ := g.gh
  have := gh_len F g.inv h
  omega
theorem Gr.step {o : Ord} (F : Fine o) {G : List Node} {K : Nat} (g : Gr o G K) {x s : Nat} (hx : x < G.length) (hs : s < 3) (hl : (wd G x).length < 1000) : ∃ G' y, stepL 1000 o 1000 G x s = some (G', y) ∧ Gr o G' (K + 2) ∧ Ext G G' (wd G x).length ∧ tod G' x s = some y := by
  obtain ⟨G', y, h1, h2, h3, h4, h5⟩ := step_ok F (lim := 1000) 1000 No G x s g.inv hx hs (by simpa using hl) (fun _ h => h.elim)
  obtain ⟨c, D, h, hD⟩ := g.gh
  obtain ⟨c', D', h6, h7⟩ := h5 c D h
  exact ⟨G', y, h1, ⟨h2, c', D', h6, by omega⟩, h3, h4⟩
theorem Gr.walk {o : Ord} (F : Fine o) {w : Word} (hw : Lets w) (hl : w.length ≤ 1000) : ∃ G y, walkL 1000 o 1000 start 0 w = some (G, y) ∧ Gr o G (2 * w.length) ∧ Leads G 0 w y := by
  obtain ⟨G, y, h3, I, _, h4, gg⟩ := walk_ok F (lim := 1000) (fuel := 1000) w start 0 (inv_start o) (by simp [start]) hw (by rw [show wd start 0 = [] from rfl]; simpa using hl) (by rw [show wd start 0 = [] from rfl]; simpa using hl)
  obtain ⟨c, D, g, hD⟩ := gg _ _ (gh_start o)
  exact ⟨G, y, h3, ⟨I, c, D, g, by omega⟩, h4⟩

/-- A tile's own word leads to it. -/
theorem word_leads {o : Ord} {G : List Node} (I : Inv o G No) : ∀ n i, (wd G i).length ≤ n → i < G.length → Leads G 0 (wd G i) i
  | 0, i, hn, hi => by
    rcases Nat.eq_zero_or_pos i with rfl | h0
    · rw [I.root]; rfl
    · obtain ⟨s, j, h1, h2, h3⟩ := I.nf2 (fun h => h) hi (by omega)
      rw [h3] at hn
      simp [letter] at hn
  | n + 1, i, hn, hi => by
    rcases Nat.eq_zero_or_pos i with rfl | h0
    · rw [I.root]; rfl
    · obtain ⟨s, j, h1, h2, h3⟩ := I.nf2 (fun h => h) hi (by omega)
      obtain ⟨hs, h4⟩ := I.sym h2
      have hj := tod_lt h4
      rw [h3] at hn ⊢
      rw [List.length_append] at hn
      have := word_leads I n j (by simp [letter] at hn; omega) hj
      refine leads_append.2 ⟨j, this, ?_⟩
      have e := (leads_letter (G := G) (x := j) (y := i) (w := []) hs).2 ⟨i, h4, rfl⟩
      rwa [List.append_nil] at e

/-- Tiles with the same word are the same. -/
theorem word_inj {o : Ord} {G : List Node} (I : Inv o G No) {i j : Nat} (hi : i < G.length) (hj : j < G.length) (h : wd G i = wd G j) : i = j := by
  have h1 := word_leads I _ i (Nat.le_refl _) hi
  have h2 := word_leads I _ j (Nat.le_refl _) hj
  rw [h] at h1
  exact leads_fun h1 h2

/-- All words of some length at most. -/
def allW : Nat → List Word
  | 0 => [[]]
  | n + 1 => [] :: (List.range 3).flatMap fun s => (allW n).map (UInt8.ofNat s :: ·)
theorem allW_mem : ∀ {n : Nat} {w : Word}, Lets w → w.length ≤ n → w ∈ allW n
  | 0, w, _, h => by
    have : w = [] := List.length_eq_zero_iff.1 (by omega)
    rw [this]; simp [allW]
  | n + 1, [], _, _ => by simp [allW]
  | n + 1, c :: w, hw, h => by
    have hc := hw c List.mem_cons_self
    refine List.mem_cons_of_mem _ (List.mem_flatMap.2 ⟨c.toNat, List.mem_range.2 hc, List.mem_map.2 ⟨w, allW_mem (fun x hx => hw x (List.mem_cons_of_mem _ hx)) (by simpa using h), by simp⟩⟩)
theorem allW_len : ∀ n, (allW n).length ≤ 2 * 3 ^ n - 1
  | 0 => by decide
  | n + 1 => by
    have := allW_len n
    have hp : 0 < 3 ^ n := Nat.pow_pos (by omega)
    simp only [allW, List.length_cons, List.length_flatMap, List.length_map]
    have e : ((List.range 3).map fun s => (allW n).length).sum = 3 * (allW n).length := by
      show (allW n).length + ((allW n).length + ((allW n).length + 0)) = _
      omega
    rw [e, Nat.pow_succ]
    omega

theorem nodup_sub {α : Type} [DecidableEq α] : ∀ {l m : List α}, l.Nodup → (∀ x ∈ l, x ∈ m) → l.length ≤ m.length
  | [], _, _, _ => Nat.zero_le _
  | a :: l, m, hn, h => by
    obtain ⟨h1, h2⟩ := List.nodup_cons.1 hn
    have ha := h a List.mem_cons_self
    have := nodup_sub (m := m.erase a) h2 (fun x hx => by
      have : x ≠ a := fun e => h1 (e ▸ hx)
      exact (List.mem_erase_of_ne this).2 (h x (List.mem_cons_of_mem _ hx)))
    rw [List.length_erase_of_mem ha] at this
    have := List.length_pos_of_mem ha
    rw [List.length_cons]
    omega

/-- Few tiles, if their words are short. -/
theorem short_len {o : Ord} {G : List Node} (I : Inv o G No) {n : Nat} (h : ∀ i, i < G.length → (wd G i).length ≤ n) : G.length ≤ 2 * 3 ^ n - 1 := by
  have h1 : ((List.range G.length).map (wd G)).Nodup := by
    rw [List.nodup_iff_pairwise_ne, List.pairwise_map]
    exact List.pairwise_iff_getElem.2 (fun i j hi hj hij e => by
      simp only [List.getElem_range, List.length_range] at hi hj e
      have := word_inj I hi hj e
      omega)
  have h2 := nodup_sub h1 (m := allW n) (fun x hx => by
    obtain ⟨i, hi, rfl⟩ := List.mem_map.1 hx
    exact allW_mem (I.lets i) (h i (List.mem_range.1 hi)))
  have := allW_len n
  simp at h2
  omega
end Hy
