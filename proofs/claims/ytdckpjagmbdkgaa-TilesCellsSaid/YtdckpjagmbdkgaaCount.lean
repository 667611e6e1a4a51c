import Derived.Test.YtdckpjagmbdkgaaNf
import Derived.Test.YtdckpjagmbdkgaaSer
import Derived.Test.YtdckpjagmbdkgaaCorn

/- Plain Lean: how many tiles of each length there are: tiles by the sides that lead down. -/
set_option linter.unusedSimpArgs false
set_option linter.unusedVariables false
namespace Hy

theorem nodup_len {α : Type} [DecidableEq α] : ∀ {l m : List α}, l.Nodup → (∀ x ∈ l, x ∈ m) → l.length ≤ m.length
  | [], _, _, _ => Nat.zero_le _
  | a :: l, m, hn, h => by
    obtain ⟨h1, h2⟩ := List.nodup_cons.1 hn
    have ha := h a List.mem_cons_self
    have h3 := nodup_len (l := l) (m := m.erase a) h2 (fun x hx => (List.mem_erase_of_ne (fun (e : x = a) => h1 (e ▸ hx))).2 (h x (List.mem_cons_of_mem _ hx)))
    have h4 := List.length_erase_of_mem ha
    have h5 := List.length_pos_of_mem ha
    simp only [List.length_cons]
    omega

/-- How many of the first n numbers are so. -/
def cnt (P : Nat → Bool) (n : Nat) : Nat := ((List.range n).filter P).length

theorem cnt_le {P Q : Nat → Bool} {n m : Nat} (f : Nat → Nat) (h : ∀ i, i < n → P i = true → f i < m ∧ Q (f i) = true) (hf : ∀ i j, i < n → j < n → P i = true → P j = true → f i = f j → i = j) : cnt P n ≤ cnt Q m := by
  have h1 : (((List.range n).filter P).map f).Nodup := by
    refine List.pairwise_map.2 ?_
    have h0 : ((List.range n).filter P).Nodup := List.Pairwise.filter _ (List.nodup_range)
    refine List.Pairwise.imp_of_mem ?_ h0
    intro a b ha hb hab he
    simp only [List.mem_filter, List.mem_range] at ha hb
    exact hab (hf a b ha.1 hb.1 ha.2 hb.2 he)
  have h2 := nodup_len (m := (List.range m).filter Q) h1 (fun x hx => by
    obtain ⟨i, hi, rfl⟩ := List.mem_map.1 hx
    simp only [List.mem_filter, List.mem_range] at hi ⊢
    exact h i hi.1 hi.2)
  simpa [cnt] using h2

theorem cnt_rel {P Q : Nat → Bool} {n m : Nat} (R : Nat → Nat → Prop) (h1 : ∀ i, i < n → P i = true → ∃ j, j < m ∧ Q j = true ∧ R i j) (h2 : ∀ j, j < m → Q j = true → ∃ i, i < n ∧ P i = true ∧ R i j)
    (u1 : ∀ i i' j, R i j → R i' j → i = i') (u2 : ∀ i j j', R i j → R i j' → j = j') : cnt P n = cnt Q m := by
  have f1 : ∀ i, ∃ j, i < n → P i = true → j < m ∧ Q j = true ∧ R i j := fun i => by
    by_cases h : i < n ∧ P i = true
    · obtain ⟨j, hj⟩ := h1 i h.1 h.2
      exact ⟨j, fun _ _ => hj⟩
    · exact ⟨0, fun a b => absurd ⟨a, b⟩ h⟩
  have f2 : ∀ j, ∃ i, j < m → Q j = true → i < n ∧ P i = true ∧ R i j := fun j => by
    by_cases h : j < m ∧ Q j = true
    · obtain ⟨i, hi⟩ := h2 j h.1 h.2
      exact ⟨i, fun _ _ => hi⟩
    · exact ⟨0, fun a b => absurd ⟨a, b⟩ h⟩
  obtain ⟨f, hf⟩ := Classical.axiomOfChoice f1
  obtain ⟨g, hg⟩ := Classical.axiomOfChoice f2
  refine Nat.le_antisymm (cnt_le f (fun i a b => ⟨(hf i a b).1, (hf i a b).2.1⟩) (fun i j a b c d e => ?_)) (cnt_le g (fun j a b => ⟨(hg j a b).1, (hg j a b).2.1⟩) (fun i j a b c d e => ?_))
  · have r1 := (hf i a c).2.2
    have r2 := (hf j b d).2.2
    rw [e] at r1
    exact u1 _ _ _ r1 r2
  · have r1 := (hg i a c).2.2
    have r2 := (hg j b d).2.2
    rw [e] at r1
    exact u2 _ _ _ r1 r2

theorem cnt_sum (P : Nat → Bool) : ∀ n, (cnt P n : Int) = sum (fun i => bi (P i)) n
  | 0 => rfl
  | n + 1 => by
    have ih := cnt_sum P n
    unfold cnt at ih ⊢
    rw [List.range_succ, List.filter_append, List.length_append, sum, ← ih]
    unfold bi
    by_cases h : P n = true
    · simp [h]
    · simp [h]

theorem cnt_congr {P Q : Nat → Bool} {n : Nat} (h : ∀ i, i < n → P i = Q i) : cnt P n = cnt Q n := by
  have h1 := cnt_sum P n
  have h2 := cnt_sum Q n
  have h3 : sum (fun i => bi (P i)) n = sum (fun i => bi (Q i)) n := sum_congr fun i hi => by rw [h i hi]
  omega

theorem cnt_or {P Q R : Nat → Bool} {n : Nat} (h : ∀ i, i < n → bi (P i) = bi (Q i) + bi (R i)) : cnt P n = cnt Q n + cnt R n := by
  have h1 := cnt_sum P n
  have h2 := cnt_sum Q n
  have h3 := cnt_sum R n
  have h4 : sum (fun i => bi (P i)) n = sum (fun i => bi (Q i) + bi (R i)) n := sum_congr h
  rw [sum_add] at h4
  omega

theorem cnt_none {P : Nat → Bool} {n : Nat} (h : ∀ i, i < n → P i = false) : cnt P n = 0 := by
  have h1 := cnt_sum P n
  have h2 : sum (fun i => bi (P i)) n = sum (fun _ => 0) n := sum_congr fun i hi => by rw [h i hi]; rfl
  rw [sum_const] at h2
  omega

def ln (G : List Node) (i : Nat) : Nat := (wd G i).length
/-- The tiles of a length; those of which a side does not lead down; those of which two don't. -/
def aC (G : List Node) (n : Nat) : Nat := cnt (fun i => ln G i == n) G.length
def dC (G : List Node) (s n : Nat) : Nat := cnt (fun i => ln G i == n && !dnb G i s) G.length
def bC (G : List Node) (s t n : Nat) : Nat := cnt (fun i => ln G i == n && (!dnb G i s && !dnb G i t)) G.length
/-- All tiles up to a length have all of their sides. -/
def Full (G : List Node) (N : Nat) : Prop := ∀ i, i < G.length → ln G i ≤ N → ∀ s, s < 3 → ∃ j, tod G i s = some j

variable {o : Ord} {G : List Node}

theorem down_len (I : Inv o G No) {s : Nat} (hs : s < 3) {N n : Nat} (hF : Full G N) (hn : n ≤ N) : cnt (fun i => ln G i == n + 1 && dnb G i s) G.length = dC G s n := by
  refine cnt_rel (fun i j => Hy.dn G i s = some j) ?_ ?_ ?_ ?_
  · intro i hi hp
    simp only [Bool.and_eq_true, beq_iff_eq] at hp
    obtain ⟨j, hj⟩ := I.lo_of hp.2
    obtain ⟨_, h2, h3, h4, h5⟩ := I.lo' hj
    refine ⟨j, tod_lt h4, ?_, hj⟩
    have h6 := I.one h3 h2
    unfold ln at hp ⊢
    simp only [h6, Bool.not_false, Bool.and_true, beq_iff_eq]
    omega
  · intro j hj hp
    simp only [Bool.and_eq_true, beq_iff_eq, Bool.not_eq_true'] at hp
    obtain ⟨i, hi⟩ := hF j hj (by omega) s hs
    obtain ⟨h1, h2⟩ := I.rise hi hp.2
    obtain ⟨_, h3, h4, _⟩ := I.lo' h1
    refine ⟨i, tod_lt h4, ?_, h1⟩
    unfold ln at hp ⊢
    simp only [h3, Bool.and_true, beq_iff_eq]
    omega
  · intro i i' j h h'
    obtain ⟨_, _, _, h4, _⟩ := I.lo' h
    obtain ⟨_, _, _, h4', _⟩ := I.lo' h'
    rw [h4] at h4'
    exact Option.some.inj h4'
  · intro i j j' h h'
    rw [h] at h'
    exact Option.some.inj h'

theorem a_split (G : List Node) (s n : Nat) : aC G n = dC G s n + cnt (fun i => ln G i == n && dnb G i s) G.length := by
  refine cnt_or fun i _ => ?_
  unfold bi
  cases ln G i == n <;> cases dnb G i s <;> rfl

/-- Over a side one comes from each tile to one other. -/
theorem a_succ (I : Inv o G No) {s : Nat} (hs : s < 3) {N n : Nat} (hF : Full G N) (hn : n ≤ N) : aC G (n + 1) = dC G s (n + 1) + dC G s n := by
  rw [a_split G s, down_len I hs hF hn]
theorem a_zero (I : Inv o G No) (s : Nat) : aC G 0 = dC G s 0 := by
  rw [a_split G s]
  have : cnt (fun i => ln G i == 0 && dnb G i s) G.length = 0 := by
    refine cnt_none fun i _ => ?_
    rw [Bool.and_eq_false_iff]
    by_cases h : dnb G i s = true
    · left
      obtain ⟨j, _, h2⟩ := I.lo h
      unfold ln
      simp only [beq_eq_false_iff_ne]
      omega
    · right; simpa using h
  omega

theorem Dch_pre {G : List Node} : ∀ {k j x a b v : Nat}, Dch G (k + j) x a b v → ∃ w, Dch G k x a b w
  | 0, _, x, _, _, _, _ => ⟨x, rfl⟩
  | k + 1, j, x, a, b, v, h => by
    rw [show k + 1 + j = (k + j) + 1 from by omega] at h
    obtain ⟨y, h1, h2⟩ := h
    obtain ⟨w, h3⟩ := Dch_pre h2
    exact ⟨w, y, h1, h3⟩

open Classical in
/-- So many steps down in turns, with t first, lead to the bottom of a corner. -/
noncomputable def atK (G : List Node) (s t k i : Nat) : Bool := decide (∃ v, Dch G k i t s v ∧ dnb G v s = false ∧ dnb G v t = false)
theorem atK_iff {s t k i : Nat} : atK G s t k i = true ↔ ∃ v, Dch G k i t s v ∧ dnb G v s = false ∧ dnb G v t = false := by
  unfold atK; simp
noncomputable def hC (G : List Node) (s t k n : Nat) : Nat := cnt (fun i => ln G i == n && atK G s t k i) G.length

theorem h_zero (s t n : Nat) : hC G s t 0 n = bC G s t n := by
  refine cnt_congr fun i _ => ?_
  congr 1
  rw [Bool.eq_iff_iff, atK_iff]
  simp only [Bool.and_eq_true, Bool.not_eq_true']
  constructor
  · rintro ⟨v, rfl, h1, h2⟩; exact ⟨h1, h2⟩
  · rintro ⟨h1, h2⟩; exact ⟨i, rfl, h1, h2⟩

theorem b_comm (s t n : Nat) : bC G s t n = bC G t s n := cnt_congr fun i _ => by rw [Bool.and_comm (!dnb G i s)]

theorem h_succ (I : Inv o G No) {s t : Nat} (hs : s < 3) (ht : t < 3) (hst : s ≠ t) {N n k : Nat} (hF : Full G N) (hn : n ≤ N) (hk : k < o.m s t) : hC G s t (k + 1) (n + 1) = hC G t s k n := by
  refine cnt_rel (fun i j => Hy.dn G i t = some j) ?_ ?_ ?_ ?_
  · intro i hi hp
    simp only [Bool.and_eq_true, beq_iff_eq, atK_iff] at hp
    obtain ⟨h1, v, ⟨j, h2, h3⟩, h4, h5⟩ := hp
    obtain ⟨_, _, _, h6, h7⟩ := I.lo' h2
    refine ⟨j, tod_lt h6, ?_, h2⟩
    simp only [Bool.and_eq_true, beq_iff_eq, atK_iff]
    unfold ln at h1 ⊢
    exact ⟨by omega, v, h3, h5, h4⟩
  · intro j hj hp
    simp only [Bool.and_eq_true, beq_iff_eq, atK_iff] at hp
    obtain ⟨h1, v, h2, h3, h4⟩ := hp
    have hnd := I.notdown (l := t) (l' := s) (fun e => hst e.symm) h3 h4 (by rw [Ord.m_comm]; exact hk) h2
    obtain ⟨i, hi⟩ := hF j hj (by omega) t ht
    obtain ⟨h5, h6⟩ := I.rise hi hnd
    obtain ⟨_, _, h7, _⟩ := I.lo' h5
    refine ⟨i, tod_lt h7, ?_, h5⟩
    simp only [Bool.and_eq_true, beq_iff_eq, atK_iff]
    unfold ln at h1 ⊢
    exact ⟨by omega, v, ⟨j, h5, h2⟩, h4, h3⟩
  · intro i i' j h h'
    obtain ⟨_, _, _, h4, _⟩ := I.lo' h
    obtain ⟨_, _, _, h4', _⟩ := I.lo' h'
    rw [h4] at h4'
    exact Option.some.inj h4'
  · intro i j j' h h'
    rw [h] at h'
    exact Option.some.inj h'

theorem h_out (I : Inv o G No) {s t k : Nat} : hC G s t (k + 1) 0 = 0 := by
  refine cnt_none fun i _ => ?_
  rw [Bool.and_eq_false_iff]
  by_cases h : ln G i = 0
  · right
    rw [← Bool.not_eq_true]
    intro h2
    obtain ⟨v, ⟨j, h3, _⟩, _⟩ := atK_iff.1 h2
    obtain ⟨_, _, _, _, h4⟩ := I.lo' h3
    unfold ln at h
    omega
  · left; simpa using h

theorem h_all (I : Inv o G No) {N : Nat} (hF : Full G N) : ∀ {k n s t : Nat}, s < 3 → t < 3 → s ≠ t → n ≤ N + 1 → k ≤ o.m s t → hC G s t k n = if k ≤ n then bC G s t (n - k) else 0
  | 0, n, s, t, _, _, _, _, _ => by rw [if_pos (Nat.zero_le _), h_zero, Nat.sub_zero]
  | k + 1, 0, s, t, _, _, _, _, _ => by rw [if_neg (by omega), h_out I]
  | k + 1, n + 1, s, t, hs, ht, hst, hn, hk => by
    rw [h_succ I hs ht hst hF (by omega) (by omega), h_all I hF ht hs (fun e => hst e.symm) (by omega) (by rw [Ord.m_comm]; omega), b_comm]
    by_cases h : k ≤ n
    · rw [if_pos h, if_pos (by omega), Nat.add_sub_add_right]
    · rw [if_neg h, if_neg (by omega)]

open Classical in
/-- Fewer than m steps down in turns lead to the bottom. -/
noncomputable def atL (G : List Node) (s t m i : Nat) : Bool := decide (∃ k, k < m ∧ atK G s t k i = true)
theorem atK_one (I : Inv o G No) {s t k k' i : Nat} (h : atK G s t k i = true) (h' : atK G s t k' i = true) : k = k' := by
  obtain ⟨v, h1, h2, h3⟩ := atK_iff.1 h
  obtain ⟨v', h1', h2', h3'⟩ := atK_iff.1 h'
  rcases Nat.lt_trichotomy k k' with hk | hk | hk
  · obtain ⟨c, j, hc, hd⟩ := Dch_next hk h1 h1'
    obtain ⟨_, hd2, _⟩ := I.lo' hd
    rcases hc with rfl | rfl
    · rw [h3] at hd2; cases hd2
    · rw [h2] at hd2; cases hd2
  · exact hk
  · obtain ⟨c, j, hc, hd⟩ := Dch_next hk h1' h1
    obtain ⟨_, hd2, _⟩ := I.lo' hd
    rcases hc with rfl | rfl
    · rw [h3'] at hd2; cases hd2
    · rw [h2'] at hd2; cases hd2

theorem l_succ (I : Inv o G No) (s t m n : Nat) : cnt (fun i => ln G i == n && atL G s t (m + 1) i) G.length = cnt (fun i => ln G i == n && atL G s t m i) G.length + hC G s t m n := by
  refine cnt_or fun i _ => ?_
  have h1 : atL G s t (m + 1) i = (atL G s t m i || atK G s t m i) := by
    rw [Bool.eq_iff_iff, Bool.or_eq_true]
    unfold atL
    simp only [decide_eq_true_eq]
    constructor
    · rintro ⟨k, hk, h⟩
      by_cases hkm : k = m
      · subst hkm; exact .inr h
      · exact .inl ⟨k, by omega, h⟩
    · rintro (⟨k, hk, h⟩ | h)
      · exact ⟨k, by omega, h⟩
      · exact ⟨m, by omega, h⟩
  have h2 : ¬ (atL G s t m i = true ∧ atK G s t m i = true) := by
    rintro ⟨h, h'⟩
    unfold atL at h
    simp only [decide_eq_true_eq] at h
    obtain ⟨k, hk, h⟩ := h
    have := atK_one I h h'
    omega
  rw [h1]
  cases hx : atL G s t m i <;> cases hy : atK G s t m i
  · unfold bi; cases ln G i == n <;> rfl
  · unfold bi; cases ln G i == n <;> rfl
  · unfold bi; cases ln G i == n <;> rfl
  · exact absurd ⟨hx, hy⟩ h2

/-- A tile of which the side s does not lead down is fewer than m steps above the bottom of its corner of s and t. -/
theorem notdown_at (I : Inv o G No) {s t i : Nat} (hs : s < 3) (ht : t < 3) (hst : s ≠ t) (hm : 0 < o.m s t) : atL G s t (o.m s t) i = !dnb G i s := by
  rw [Bool.eq_iff_iff, Bool.not_eq_true']
  unfold atL
  simp only [decide_eq_true_eq]
  constructor
  · rintro ⟨k, hk, h⟩
    obtain ⟨v, h1, h2, h3⟩ := atK_iff.1 h
    exact I.notdown (l := s) (l' := t) hst h2 h3 hk h1
  · intro h
    obtain ⟨k, v, h1, h2, h3⟩ := longest I (wd G i).length i t s (Nat.le_refl _)
    have hk : k < o.m s t := by
      rcases Nat.lt_or_ge k (o.m s t) with hk | hk
      · exact hk
      · obtain ⟨j, rfl⟩ : ∃ j, k = o.m s t + j := ⟨k - o.m s t, by omega⟩
        obtain ⟨w, hw⟩ := Dch_pre h1
        have := I.full (i := i) (a := t) (b := s) (fun h => h) (fun e => hst e.symm) ht hs (by rw [Ord.m_comm]; exact hm) (by rw [Ord.m_comm]; exact hw)
        rw [h] at this
        cases this
    refine ⟨k, hk, atK_iff.2 ⟨v, h1, ?_⟩⟩
    by_cases h0 : k = 0
    · subst h0
      obtain rfl : i = v := h1
      exact ⟨h, h2⟩
    · have h4 := h3 (by omega)
      rcases alt_two (n := k) (a := t) (b := s) with ⟨e1, e2⟩ | ⟨e1, e2⟩
      · rw [e1] at h2; rw [e2] at h4; exact ⟨h4, h2⟩
      · rw [e1] at h2; rw [e2] at h4; exact ⟨h2, h4⟩

open HySer in
theorem conv_ones (m : Nat) (f : Nat → HySer.R) (n : Nat) : conv (cf (ones (m + 1))) f n = conv (cf (ones m)) f n + if m ≤ n then f (n - m) else 0 := by
  have e : cf (ones (m + 1)) = add (cf (ones m)) (mono 1 m) := by
    funext i
    unfold add mono
    try dsimp only
    rw [cf_ones, cf_ones]
    by_cases h : i < m
    · rw [if_pos (by omega), if_pos h, if_neg (by omega)]; simp
    · by_cases h2 : i = m
      · rw [if_pos (by omega), if_neg h, if_pos h2]; simp
      · rw [if_neg (by omega), if_neg h, if_neg h2]; simp
  rw [e, conv_add, conv_mono]
  split <;> simp

/-- A count as a number of 64 bits. -/
def w64 (n : Nat) : HySer.R := BitVec.ofInt 64 n
theorem w64_add (a b : Nat) : w64 (a + b) = w64 a + w64 b := by unfold w64; rw [← BitVec.ofInt_add]; rfl

open HySer in
theorem d_conv (I : Inv o G No) {N : Nat} (hF : Full G N) {s t : Nat} (hs : s < 3) (ht : t < 3) (hst : s ≠ t) (hm : 0 < o.m s t) {n : Nat} (hn : n ≤ N + 1) : w64 (dC G s n) = conv (cf (ones (o.m s t))) (fun k => w64 (bC G s t k)) n := by
  have key : ∀ m, m ≤ o.m s t → w64 (cnt (fun i => ln G i == n && atL G s t m i) G.length) = conv (cf (ones m)) (fun k => w64 (bC G s t k)) n := by
    intro m
    induction m with
    | zero =>
      intro _
      rw [cnt_none (fun i _ => by unfold atL; simp)]
      have : cf (ones 0) = fun _ => 0 := cf_nil
      rw [this, conv_zeroF]; rfl
    | succ m ih =>
      intro hmm
      rw [l_succ I, w64_add, ih (by omega), conv_ones, h_all I hF hs ht hst hn (by omega)]
      congr 1
      split
      · rfl
      · rfl
  rw [← key _ (Nat.le_refl _)]
  congr 1
  refine cnt_congr fun i _ => ?_
  rw [notdown_at I hs ht hst hm]

/-- Where two mirrors don't meet, not both sides lead down. -/
theorem b_ideal (I : Inv o G No) {s t : Nat} (hst : s ≠ t) (hm : o.m s t = 0) (n : Nat) : bC G s t n + aC G n = dC G s n + dC G t n := by
  have h1 := cnt_sum (fun i => ln G i == n && (!dnb G i s && !dnb G i t)) G.length
  have h2 := cnt_sum (fun i => ln G i == n) G.length
  have h3 := cnt_sum (fun i => ln G i == n && !dnb G i s) G.length
  have h4 := cnt_sum (fun i => ln G i == n && !dnb G i t) G.length
  have h5 : sum (fun i => bi (ln G i == n && (!dnb G i s && !dnb G i t)) + bi (ln G i == n)) G.length = sum (fun i => bi (ln G i == n && !dnb G i s) + bi (ln G i == n && !dnb G i t)) G.length := by
    refine sum_congr fun i _ => ?_
    cases hx : dnb G i s <;> cases hy : dnb G i t
    · unfold bi; cases ln G i == n <;> rfl
    · unfold bi; cases ln G i == n <;> rfl
    · unfold bi; cases ln G i == n <;> rfl
    · have := (I.top hx hy hst).1; omega
  rw [sum_add, sum_add] at h5
  unfold bC aC dC
  omega

/-- No tile but the first one has no side that leads down, and none has three. -/
theorem a_all (F : Fine o) (I : Inv o G No) (n : Nat) : aC G n + (bC G 0 1 n + bC G 1 2 n + bC G 0 2 n) = dC G 0 n + dC G 1 n + dC G 2 n + if n = 0 then 1 else 0 := by
  have h1 := cnt_sum (fun i => ln G i == n && (!dnb G i 0 && !dnb G i 1)) G.length
  have h2 := cnt_sum (fun i => ln G i == n && (!dnb G i 1 && !dnb G i 2)) G.length
  have h3 := cnt_sum (fun i => ln G i == n && (!dnb G i 0 && !dnb G i 2)) G.length
  have h4 := cnt_sum (fun i => ln G i == n && !dnb G i 0) G.length
  have h5 := cnt_sum (fun i => ln G i == n && !dnb G i 1) G.length
  have h6 := cnt_sum (fun i => ln G i == n && !dnb G i 2) G.length
  have h7 := cnt_sum (fun i => ln G i == n) G.length
  have h0 := sum_one (if n = 0 then 1 else 0) 0 G.length
  rw [if_pos I.pos] at h0
  have key : sum (fun i => ((bi (ln G i == n) + bi (ln G i == n && (!dnb G i 0 && !dnb G i 1))) + bi (ln G i == n && (!dnb G i 1 && !dnb G i 2))) + bi (ln G i == n && (!dnb G i 0 && !dnb G i 2))) G.length =
      sum (fun i => ((bi (ln G i == n && !dnb G i 0) + bi (ln G i == n && !dnb G i 1)) + bi (ln G i == n && !dnb G i 2)) + (if i = 0 then (if n = 0 then 1 else 0) else 0)) G.length := by
    refine sum_congr fun i hi => ?_
    by_cases hz : i = 0
    · subst hz
      rw [if_pos rfl]
      have hr : ∀ s, dnb G 0 s = false := fun s => by
        cases h : dnb G 0 s with
        | false => rfl
        | true =>
          obtain ⟨j, _, h2⟩ := I.lo h
          rw [I.root] at h2
          simp at h2
      have hl : ln G 0 = 0 := by unfold ln; rw [I.root]; rfl
      rw [hr 0, hr 1, hr 2, hl]
      by_cases hn : n = 0
      · subst hn; rfl
      · rw [if_neg hn, show ((0 : Nat) == n) = false from by rw [beq_eq_false_iff_ne]; exact fun e => hn e.symm]; rfl
    · rw [if_neg hz]
      have hsome := I.nf2 (i := i) (fun h => h) hi hz
      obtain ⟨s, j, hd, ht, _⟩ := hsome
      have hs := (I.sym ht).1
      cases x0 : dnb G i 0 <;> cases x1 : dnb G i 1 <;> cases x2 : dnb G i 2
      · exfalso
        match s, hs with
        | 0, _ => rw [x0] at hd; cases hd
        | 1, _ => rw [x1] at hd; cases hd
        | 2, _ => rw [x2] at hd; cases hd
      all_goals first
        | (unfold bi; cases ln G i == n <;> rfl)
        | (exfalso
           obtain ⟨j0, k0⟩ := I.lo_of x0
           obtain ⟨j1, k1⟩ := I.lo_of x1
           obtain ⟨hm, v, hv, _⟩ := I.top x1 x2 (by decide)
           exact I.downs.no F ⟨by decide, by decide, by decide, by decide, by decide, by decide⟩ k0 k1 hm (Dch_Ch hv))
  simp only [sum_add] at key
  rw [h0] at key
  unfold aC bC dC
  split at key <;> rename_i hn
  · rw [if_pos hn]; omega
  · rw [if_neg hn]; omega
end Hy

/- Plain Lean: the rings of the growing graph, one after the other. -/
set_option linter.unusedSimpArgs false
set_option linter.unusedVariables false
namespace Hy

/-- The ring of length i in a graph that holds all tiles up to it. -/
structure Lev (o : Ord) (G : List Node) (i : Nat) (ring : List Nat) : Prop where
  inv : Inv o G No
  mem : ∀ x, x ∈ ring ↔ x < G.length ∧ (wd G x).length = i
  nd : ring.Nodup
  full : ∀ x, x < G.length → (wd G x).length < i → ∀ s, s < 3 → ∃ j, tod G x s = some j
  top : ∀ x, x < G.length → (wd G x).length ≤ i

theorem Lev.begin (o : Ord) : Lev o start 0 [0] := by
  have h0 : wd start 0 = [] := rfl
  refine ⟨inv_start o, fun x => ?_, by simp, fun x _ h => by omega, fun x hx => ?_⟩
  · constructor
    · intro h
      simp at h
      subst h
      exact ⟨by simp [start], by rw [h0]; rfl⟩
    · rintro ⟨h, _⟩
      simp [start] at h
      simp [h]
  · simp [start] at hx
    subst hx
    rw [h0]
    exact Nat.le_refl _

theorem Lev.small {o : Ord} {G : List Node} {i : Nat} {ring : List Nat} (h : Lev o G i ring) : G.length ≤ 2 * 3 ^ i - 1 := short_len h.inv h.top
theorem Lev.isFull {o : Ord} {G : List Node} {i : Nat} {ring : List Nat} (h : Lev o G (i + 1) ring) : Full G i := fun x hx hn s hs => h.full x hx (by unfold ln at hn; omega) s hs

/-- While the next ring is gathered: k tiles are done, and s sides of the next one. -/
structure Mid (o : Ord) (G0 G : List Node) (i : Nat) (ring : List Nat) (k s : Nat) (next : List Nat) : Prop where
  inv : Inv o G No
  len : G0.length ≤ G.length
  hwd : ∀ x, x < G0.length → wd G x = wd G0 x
  hdnb : ∀ x t, x < G0.length → dnb G x t = dnb G0 x t
  htod : ∀ x t j, tod G0 x t = some j → tod G x t = some j
  top : ∀ x, x < G.length → (wd G x).length ≤ i + 1
  done : ∀ p t x, ring[p]? = some x → t < 3 → p < k ∨ p = k ∧ t < s → ∃ y, tod G x t = some y ∧ (i < (wd G y).length → y ∈ next)
  mem : ∀ y, y ∈ next → y < G.length ∧ (wd G y).length = i + 1
  nd : next.Nodup

theorem Mid.begin {o : Ord} {G : List Node} {i : Nat} {ring : List Nat} (h : Lev o G i ring) : Mid o G G i ring 0 0 [] :=
  ⟨h.inv, Nat.le_refl _, fun _ _ => rfl, fun _ _ _ => rfl, fun _ _ _ h => h, fun x hx => Nat.le_succ_of_le (h.top x hx), fun p t x _ _ h => by omega, fun y hy => by simp at hy, by simp⟩

theorem Mid.row {o : Ord} {G0 G : List Node} {i k : Nat} {ring next : List Nat} (h : Mid o G0 G i ring k 3 next) : Mid o G0 G i ring (k + 1) 0 next :=
  ⟨h.inv, h.len, h.hwd, h.hdnb, h.htod, h.top, fun p t x hx ht hp => h.done p t x hx ht (by omega), h.mem, h.nd⟩

/-- The next side. -/
theorem Mid.step {o : Ord} {G0 G G' : List Node} {i k s x y : Nat} {ring next : List Nat} (L : Lev o G0 i ring) (h : Mid o G0 G i ring k s next) (hx : ring[k]? = some x) (hs : s < 3) (I' : Inv o G' No) (X : Ext G G' (wd G x).length) (ht : tod G' x s = some y) :
    Mid o G0 G' i ring k (s + 1) (if i < (wd G' y).length ∧ y ∉ next then next ++ [y] else next) := by
  have hx0 := (L.mem x).1 (List.mem_of_getElem? hx)
  have hxG : x < G.length := Nat.lt_of_lt_of_le hx0.1 h.len
  have hxw : (wd G x).length = i := by rw [h.hwd x hx0.1]; exact hx0.2
  have htop : ∀ z, z < G'.length → (wd G' z).length ≤ i + 1 := fun z hz => by
    rcases Nat.lt_or_ge z G.length with h1 | h1
    · rw [X.hwd h1]; exact h.top z h1
    · have := X.new h1; omega
  have hy : y < G'.length := tod_lt (I'.sym ht).2
  have hmono : ∀ z, z ∈ next → z ∈ (if i < (wd G' y).length ∧ y ∉ next then next ++ [y] else next) := fun z hz => by
    split
    · exact List.mem_append_left _ hz
    · exact hz
  refine ⟨I', Nat.le_trans h.len X.len, fun z hz => by rw [X.hwd (Nat.lt_of_lt_of_le hz h.len)]; exact h.hwd z hz, fun z t hz => by rw [X.hdnb (Nat.lt_of_lt_of_le hz h.len)]; exact h.hdnb z t hz, fun z t j hj => X.htod (h.htod z t j hj), htop, ?_, ?_, ?_⟩
  · intro p t x' hp ht3 hpk
    by_cases hold : p < k ∨ p = k ∧ t < s
    · obtain ⟨y', h1, h2⟩ := h.done p t x' hp ht3 hold
      refine ⟨y', X.htod h1, fun hlt => hmono _ (h2 ?_)⟩
      have : y' < G.length := tod_lt (h.inv.sym h1).2
      rwa [X.hwd this] at hlt
    · obtain ⟨rfl, rfl⟩ : p = k ∧ t = s := by omega
      rw [hx] at hp
      cases hp
      refine ⟨y, ht, fun hlt => ?_⟩
      by_cases hyn : y ∈ next
      · exact hmono y hyn
      · rw [if_pos ⟨hlt, hyn⟩]; simp
  · intro z hz
    have hold : ∀ z, z ∈ next → z < G'.length ∧ (wd G' z).length = i + 1 := fun z hz => by
      obtain ⟨h1, h2⟩ := h.mem z hz
      exact ⟨Nat.lt_of_lt_of_le h1 X.len, by rw [X.hwd h1]; exact h2⟩
    split at hz
    · rename_i hc
      rcases List.mem_append.1 hz with hz | hz
      · exact hold z hz
      · simp at hz
        subst hz
        exact ⟨hy, by have := htop z hy; omega⟩
    · exact hold z hz
  · split
    · rename_i hc
      rw [List.nodup_append]
      refine ⟨h.nd, by simp, fun a ha b hb e => ?_⟩
      simp at hb
      subst hb
      subst e
      exact hc.2 ha
    · exact h.nd

/-- The graph has grown, no more. -/
theorem Mid.ext {o : Ord} {G0 G G' : List Node} {i k s x : Nat} {ring next : List Nat} (L : Lev o G0 i ring) (h : Mid o G0 G i ring k s next) (hx : ring[k]? = some x) (I' : Inv o G' No) (X : Ext G G' (wd G x).length) : Mid o G0 G' i ring k s next := by
  have hx0 := (L.mem x).1 (List.mem_of_getElem? hx)
  have hxw : (wd G x).length = i := by rw [h.hwd x hx0.1]; exact hx0.2
  refine ⟨I', Nat.le_trans h.len X.len, fun z hz => by rw [X.hwd (Nat.lt_of_lt_of_le hz h.len)]; exact h.hwd z hz, fun z t hz => by rw [X.hdnb (Nat.lt_of_lt_of_le hz h.len)]; exact h.hdnb z t hz, fun z t j hj => X.htod (h.htod z t j hj), fun z hz => ?_, ?_, ?_, h.nd⟩
  · rcases Nat.lt_or_ge z G.length with h1 | h1
    · rw [X.hwd h1]; exact h.top z h1
    · have := X.new h1; omega
  · intro p t x' hp ht3 hpk
    obtain ⟨y', h1, h2⟩ := h.done p t x' hp ht3 hpk
    refine ⟨y', X.htod h1, fun hlt => h2 ?_⟩
    have : y' < G.length := tod_lt (h.inv.sym h1).2
    rwa [X.hwd this] at hlt
  · intro z hz
    obtain ⟨h1, h2⟩ := h.mem z hz
    exact ⟨Nat.lt_of_lt_of_le h1 X.len, by rw [X.hwd h1]; exact h2⟩

/-- All of it. -/
theorem Mid.end {o : Ord} {G0 G : List Node} {i : Nat} {ring next : List Nat} (L : Lev o G0 i ring) (h : Mid o G0 G i ring ring.length 0 next) : Lev o G (i + 1) next := by
  have old : ∀ n y, y < G.length → (wd G y).length ≤ n → n ≤ i → y < G0.length := by
    intro n
    induction n with
    | zero =>
      intro y hy hn _
      have e : wd G y = wd G 0 := by rw [h.inv.root]; exact List.length_eq_zero_iff.1 (by omega)
      rw [word_inj h.inv hy h.inv.pos e]
      exact L.inv.pos
    | succ n ih =>
      intro y hy hn hni
      rcases Nat.eq_zero_or_pos y with rfl | h0
      · exact L.inv.pos
      · obtain ⟨s, j, h1, h2, h3⟩ := h.inv.nf2 (fun h => h) hy (by omega)
        obtain ⟨hs, h4⟩ := h.inv.sym h2
        have hj := tod_lt h4
        have hjl : (wd G j).length + 1 = (wd G y).length := by rw [h3, List.length_append]; simp [letter]
        have hj0 := ih j hj (by omega) (by omega)
        obtain ⟨q, hq⟩ := L.full j hj0 (by rw [← h.hwd j hj0]; omega) s hs
        have := h.htod j s q hq
        rw [h4] at this
        cases this
        exact tod_lt (L.inv.sym hq).2
  have sides : ∀ x, x < G.length → (wd G x).length < i + 1 → ∀ s, s < 3 → ∃ j, tod G x s = some j := fun x hx hl s hs => by
    have hx0 := old _ x hx (Nat.le_refl _) (by omega)
    by_cases he : (wd G x).length = i
    · obtain ⟨p, hp⟩ := List.getElem?_of_mem ((L.mem x).2 ⟨hx0, by rw [← h.hwd x hx0]; exact he⟩)
      have hpl : p < ring.length := (List.getElem?_eq_some_iff.1 hp).1
      obtain ⟨y, hy, _⟩ := h.done p s x hp hs (.inl hpl)
      exact ⟨y, hy⟩
    · obtain ⟨j, hj⟩ := L.full x hx0 (by rw [← h.hwd x hx0]; omega) s hs
      exact ⟨j, h.htod x s j hj⟩
  refine ⟨h.inv, fun y => ⟨h.mem y, fun ⟨hy, hl⟩ => ?_⟩, h.nd, sides, h.top⟩
  have hy0 : y ≠ 0 := by
    rintro rfl
    rw [h.inv.root] at hl
    simp at hl
  obtain ⟨s, j, h1, h2, h3⟩ := h.inv.nf2 (fun h => h) hy hy0
  obtain ⟨hs, h4⟩ := h.inv.sym h2
  have hj := tod_lt h4
  have hjl : (wd G j).length + 1 = (wd G y).length := by rw [h3, List.length_append]; simp [letter]
  have hj0 := old _ j hj (Nat.le_refl _) (by omega)
  obtain ⟨p, hp⟩ := List.getElem?_of_mem ((L.mem j).2 ⟨hj0, by rw [← h.hwd j hj0]; omega⟩)
  have hpl : p < ring.length := (List.getElem?_eq_some_iff.1 hp).1
  obtain ⟨y', hy', hin⟩ := h.done p s j hp hs (.inl hpl)
  rw [h4] at hy'
  cases hy'
  exact hin (by omega)

/-- As many as are counted. -/
theorem Lev.count {o : Ord} {G : List Node} {i : Nat} {ring : List Nat} (h : Lev o G i ring) : ring.length = aC G i := by
  have key : ∀ x, x ∈ ring ↔ x ∈ (List.range G.length).filter (fun x => ln G x == i) := fun x => by
    rw [h.mem x, List.mem_filter, List.mem_range]
    unfold ln
    simp
  have h1 := nodup_sub h.nd (fun x hx => (key x).1 hx)
  have h2 := nodup_sub (List.Pairwise.filter (fun x => ln G x == i) (List.nodup_range (n := G.length))) (fun x hx => (key x).2 hx)
  unfold aC cnt
  omega
theorem Lev.ring_small {o : Ord} {G : List Node} {i : Nat} {ring : List Nat} (h : Lev o G i ring) (hi : i ≤ 15) : ring.length ≤ 1000000000 := by
  have h1 := nodup_sub h.nd (m := List.range G.length) (fun x hx => List.mem_range.2 ((h.mem x).1 hx).1)
  have h2 := h.small
  have h3 : 3 ^ i ≤ 3 ^ 15 := Nat.pow_le_pow_right (by omega) hi
  have h4 : 3 ^ 15 = 14348907 := by decide
  rw [List.length_range] at h1
  omega
end Hy

/- Plain Lean: the numbers of tiles are the specification's series. -/
set_option linter.unusedSimpArgs false
set_option linter.unusedVariables false
namespace HySer

def shN (k : Nat) (f : Nat → R) : Nat → R := fun n => if k ≤ n then f (n - k) else 0

theorem rv_more {d : Nat} {f : Nat → R} (h : ∀ i, d < i → f i = 0) (k : Nat) : rv (d + k) f = shN k (rv d f) := by
  funext n
  unfold rv shN
  dsimp only
  by_cases h1 : k ≤ n
  · rw [if_pos h1]
    by_cases h2 : n ≤ d + k
    · rw [if_pos h2, if_pos (by omega), show d + k - n = d - (n - k) from by omega]
    · rw [if_neg h2, if_neg (by omega)]
  · rw [if_neg h1]
    by_cases h2 : n ≤ d + k
    · rw [if_pos h2, h _ (by omega)]
    · rw [if_neg h2]

theorem shN_succ (k : Nat) (f : Nat → R) : sh (shN k f) = shN (k + 1) f := by
  funext n
  cases n with
  | zero => simp [sh, shN]
  | succ n => simp only [sh, shN, Nat.add_le_add_iff_right, Nat.add_sub_add_right]
theorem shN_one (f : Nat → R) : shN 1 f = sh f := by
  funext n
  cases n with
  | zero => simp [sh, shN]
  | succ n => simp [sh, shN]

/-- (1 - t) (1 + .. + t^(m-1)) f = f - t^m f. -/
theorem ones_tel (f : Nat → R) : ∀ (m n : Nat), conv (cf (ones m)) f n - sh (conv (cf (ones m)) f) n = f n - shN m f n
  | 0, n => by
    have e : conv (cf (ones 0)) f = fun _ => 0 := by funext k; rw [show cf (ones 0) = fun _ => 0 from cf_nil, conv_zeroF]
    rw [e]
    cases n <;> simp [sh, shN]
  | m + 1, n => by
    have ih := ones_tel f m n
    have e : conv (cf (ones (m + 1))) f = add (conv (cf (ones m)) f) (shN m f) := funext fun k => Hy.conv_ones m f k
    rw [e, sh_add, shN_succ]
    unfold add
    grind

theorem conv_addR (f g h : Nat → R) (n : Nat) : conv f (add g h) n = conv f g n + conv f h n := by
  rw [conv_comm, conv_add, conv_comm g, conv_comm h]
theorem conv_smulR (a : R) (f g : Nat → R) (n : Nat) : conv f (smul a g) n = a * conv f g n := by
  rw [conv_comm, conv_smul, conv_comm g]

theorem two_conv (f : Nat → R) (n : Nat) : conv (cf [1, 1]) f n = f n + sh f n := by
  have h := Hy.conv_ones 1 f n
  have h0 := Hy.conv_ones 0 f n
  rw [show cf (ones 0) = fun _ => 0 from cf_nil, conv_zeroF] at h0
  rw [show ([1, 1] : List Int) = ones (1 + 1) from rfl, h, h0]
  have e : (if 1 ≤ n then f (n - 1) else 0) = sh f n := by
    cases n <;> simp [sh]
  rw [e]
  simp

/-- A part of the specification's denominator. -/
theorem rest_rv {ms : List Nat} (h : ∀ m ∈ ms, 2 ≤ m) {i : Nat} (hi : i < ms.length) : rv ((fracD ms).length - 1) (cf (restAll ms i)) = shN ms[i] (serAll (ms.eraseIdx i)) := by
  have h' : ∀ m ∈ ms.eraseIdx i, 2 ≤ m := fun x hx => h x ((List.eraseIdx_sublist ms i).subset hx)
  obtain ⟨e1, e2⟩ := cf_prod h
  obtain ⟨e3, e4⟩ := cf_prod h'
  have e6 := (ser_erase hi).2 h
  have hd := fracD_len h
  have hp := lenAll_pos h'
  have hpal := (prod_pal h').pal
  unfold restAll
  rw [show (fracD ms).length - 1 = ((prodAll (ms.eraseIdx i)).length - 1) + ms[i] from by omega, rv_more (fun j hj => cf_out (by omega)), hpal, e3]
theorem prod_rv {ms : List Nat} (h : ∀ m ∈ ms, 2 ≤ m) : rv ((fracD ms).length - 1) (cf (prodAll ms)) = sh (serAll ms) := by
  obtain ⟨e1, e2⟩ := cf_prod h
  have hd := fracD_len h
  have hp := lenAll_pos h
  have hpal := (prod_pal h).pal
  rw [show (fracD ms).length - 1 = ((prodAll ms).length - 1) + 1 from by omega, rv_more (fun j hj => cf_out (by omega)), hpal, e1, shN_one]
theorem cf_fracD {ms : List Nat} (h : ∀ m ∈ ms, 2 ≤ m) : cf (fracD ms) = conv (cf [1, 1]) (serAll ms) := by
  unfold fracD
  rw [cf_times (by simp), (cf_prod h).1, conv_comm']

/-- A part, times all tiles. -/
theorem rest_tel {ms : List Nat} {i : Nat} (hi : i < ms.length) (A : Nat → R) (n : Nat) : conv (serAll (ms.eraseIdx i)) A n = conv (shN ms[i] (serAll (ms.eraseIdx i))) A n + conv (serAll ms) A n - conv (sh (serAll ms)) A n := by
  have e := (ser_erase hi).1
  have e1 : serAll (ms.eraseIdx i) = add (add (shN ms[i] (serAll (ms.eraseIdx i))) (serAll ms)) (smul (-1) (sh (serAll ms))) := by
    funext k
    have := ones_tel (serAll (ms.eraseIdx i)) ms[i] k
    rw [conv_comm', ← e] at this
    unfold add smul
    grind
  have e2 : conv (serAll (ms.eraseIdx i)) A n = conv (add (add (shN ms[i] (serAll (ms.eraseIdx i))) (serAll ms)) (smul (-1) (sh (serAll ms)))) A n := by rw [← e1]
  rw [e2, conv_add, conv_add, conv_smul]
  grind

theorem mulX {ms : List Nat} {A Ds X : Nat → R} (hDs : conv (cf [1, 1]) Ds = A) {i : Nat} (hi : i < ms.length) (hX : conv (cf (ones ms[i])) X = Ds) (n : Nat) : conv (conv (cf [1, 1]) (serAll ms)) X n = conv (serAll (ms.eraseIdx i)) A n := by
  rw [(ser_erase hi).1, conv_assoc', conv_assoc', hX, ← conv_assoc', conv_comm' (cf [1, 1]), conv_assoc', hDs]

theorem mulD {ms : List Nat} {A Ds : Nat → R} (hDs : conv (cf [1, 1]) Ds = A) (n : Nat) : conv (conv (cf [1, 1]) (serAll ms)) Ds n = conv (serAll ms) A n := by
  rw [conv_comm' (cf [1, 1]), conv_assoc', hDs]

theorem mulA (ms : List Nat) (A : Nat → R) (n : Nat) : conv (conv (cf [1, 1]) (serAll ms)) A n = conv (serAll ms) A n + conv (sh (serAll ms)) A n := by
  have e : conv (cf [1, 1]) (serAll ms) = add (serAll ms) (sh (serAll ms)) := funext fun k => two_conv _ k
  rw [e, conv_add]

def sumF : List (Nat → R) → Nat → R
  | [], _ => 0
  | f :: l, n => f n + sumF l n
theorem conv_sumF (P : Nat → R) : ∀ (l : List (Nat → R)) (n : Nat), conv P (sumF l) n = sumF (l.map (conv P)) n
  | [], n => by
    have e : sumF [] = fun _ => 0 := rfl
    rw [e, conv_comm, conv_zeroF]; rfl
  | f :: l, n => by
    have e : sumF (f :: l) = add f (sumF l) := rfl
    rw [e, conv_addR, conv_sumF P l]; rfl

theorem ref_unfold {ms : List Nat} (h : ∀ m ∈ ms, 2 ≤ m) (A : Nat → R) (n : Nat) : ∀ k, k ≤ ms.length →
    conv (rv ((fracD ms).length - 1) (cf ((List.range k).foldl (fun a i => pplus a (restAll ms i) 1) (pplus (fracD ms) (prodAll ms) (-3))))) A n =
      conv (cf (fracD ms)) A n - 3 * conv (sh (serAll ms)) A n + sumF ((List.range k).map fun i => conv (shN (ms.getD i 0) (serAll (ms.eraseIdx i))) A) n
  | 0, _ => by
    simp only [List.range_zero, List.foldl_nil, List.map_nil, sumF]
    rw [cf_plus, rv_add, rv_smul, conv_add, conv_smul, prod_rv h, (fracD_pal h).pal]
    have e : (BitVec.ofInt 64 (-3) : R) = -3 := rfl
    rw [e]
    grind
  | k + 1, hk => by
    have ih := ref_unfold h A n k (by omega)
    rw [List.range_succ, List.foldl_append]
    simp only [List.foldl_cons, List.foldl_nil]
    rw [cf_plus, rv_add, rv_smul, conv_add, conv_smul, ih, rest_rv h (by omega), List.map_append]
    have e1 : (BitVec.ofInt 64 1 : R) = 1 := rfl
    have e2 : ∀ (l : List (Nat → R)) (f : Nat → R), sumF (l ++ [f]) n = sumF l n + f n := by
      intro l f
      induction l with
      | nil => simp [sumF]
      | cons g l ih => simp only [List.cons_append, sumF, ih]; grind
    simp only [List.map_cons, List.map_nil, e2, e1]
    have e3 : ms.getD k 0 = ms[k] := by simp [List.getD, List.getElem?_eq_getElem (show k < ms.length by omega)]
    rw [e3]
    grind

/-- The sum over the orders, part by part. -/
theorem sum_tel {ms : List Nat} (A : Nat → R) (n : Nat) : ∀ k, k ≤ ms.length → sumF ((List.range k).map fun i => conv (serAll (ms.eraseIdx i)) A) n =
    sumF ((List.range k).map fun i => conv (shN (ms.getD i 0) (serAll (ms.eraseIdx i))) A) n + BitVec.ofNat 64 k * (conv (serAll ms) A n - conv (sh (serAll ms)) A n)
  | 0, _ => by simp [sumF]
  | k + 1, hk => by
    have ih := sum_tel (ms := ms) A n k (by omega)
    have e2 : ∀ (l : List (Nat → R)) (f : Nat → R), sumF (l ++ [f]) n = sumF l n + f n := by
      intro l f
      induction l with
      | nil => simp [sumF]
      | cons g l ih => simp only [List.cons_append, sumF, ih]; grind
    have e3 : ms.getD k 0 = ms[k] := by simp [List.getD, List.getElem?_eq_getElem (show k < ms.length by omega)]
    rw [List.range_succ, List.map_append, List.map_append]
    simp only [List.map_cons, List.map_nil, e2]
    rw [ih, rest_tel (show k < ms.length by omega) A n, e3]
    have e4 : BitVec.ofNat 64 (k + 1) = BitVec.ofNat 64 k + 1 := by
      apply BitVec.eq_of_toNat_eq; simp
    rw [e4]
    grind

/-- From the tiles with their sides to the specification's series. z: how many pairs of mirrors do not meet. -/
theorem ring_main {ms : List Nat} (h : ∀ m ∈ ms, 2 ≤ m) {A Ds : Nat → R} {X : Nat → Nat → R} {M z : Nat} (hz : ms.length + z = 3) (hDs : conv (cf [1, 1]) Ds = A) (hX : ∀ m ∈ ms, conv (cf (ones m)) (X m) = Ds)
    (hI : ∀ n, n ≤ M → A n + sumF (ms.map X) n + BitVec.ofNat 64 z * (Ds n + Ds n - A n) = 3 * Ds n + one n) : ∀ n, n ≤ M → A n = ser (fracD ms) (refDen ms) n := by
  obtain ⟨hden, hone⟩ := refDen_one h
  have hser := ser_eq (num := fracD ms) hone
  refine cancel_le (f := cf (refDen ms)) hone (n := M) (fun n hn => ?_)
  rw [hser]
  -- both sides times P
  have hP : conv (conv (cf [1, 1]) (serAll ms)) (add (add A (sumF (ms.map X))) (smul (BitVec.ofNat 64 z) (add (add Ds Ds) (smul (-1) A)))) n = conv (conv (cf [1, 1]) (serAll ms)) (add (smul 3 Ds) one) n := by
    refine conv_congr (fun _ _ => rfl) (fun k hk => ?_)
    have := hI k (by omega)
    unfold add smul
    grind
  simp only [conv_addR, conv_smulR, mulA ms A, mulD hDs] at hP
  rw [conv_comm _ one, one_conv, conv_sumF] at hP
  have hsum : sumF ((ms.map X).map (conv (conv (cf [1, 1]) (serAll ms)))) n = sumF ((List.range ms.length).map fun i => conv (serAll (ms.eraseIdx i)) A) n := by
    have : (ms.map X).map (conv (conv (cf [1, 1]) (serAll ms))) = (List.range ms.length).map fun i => conv (serAll (ms.eraseIdx i)) A := by
      apply List.ext_getElem (by simp)
      intro i h1 h2
      have hi : i < ms.length := by simpa using h1
      simp only [List.getElem_map, List.getElem_range]
      exact funext fun k => mulX hDs hi (hX _ (List.getElem_mem hi)) k
    rw [this]
  rw [hsum, sum_tel A n _ (Nat.le_refl _)] at hP
  have hU := ref_unfold h A n ms.length (Nat.le_refl _)
  rw [hden]
  unfold refA
  rw [hU, cf_fracD h, mulA]
  have e3 : BitVec.ofNat 64 ms.length + BitVec.ofNat 64 z = 3 := by
    rw [← BitVec.ofNat_add, hz]
    rfl
  grind
end HySer

namespace Hy
open HySer
variable {o : Ord} {G : List Node}

/-- The orders that are not 0. -/
def orders (o : Ord) : List Nat := [o.m01, o.m12, o.m02].filter (0 < ·)

theorem d_two (I : Inv o G No) {N : Nat} (hF : Full G N) {s : Nat} (hs : s < 3) {n : Nat} (hn : n ≤ N + 1) : conv (cf [1, 1]) (fun k => w64 (dC G s k)) n = w64 (aC G n) := by
  rw [two_conv]
  cases n with
  | zero => rw [a_zero I s]; simp [sh]
  | succ n => rw [a_succ I hs hF (by omega), w64_add]; rfl

theorem ring_ser (F : Fine o) (I : Inv o G No) {N : Nat} (hF : Full G N) : ∀ n, n ≤ N + 1 → w64 (aC G n) = ser (fracD (orders o)) (refDen (orders o)) n := by
  have h2 : ∀ m ∈ orders o, 2 ≤ m := by
    intro m hm
    unfold orders at hm
    simp only [List.mem_filter, List.mem_cons, List.not_mem_nil, or_false, decide_eq_true_eq] at hm
    obtain ⟨hm, h0⟩ := hm
    have a := F.one 0 1 (by decide) (by decide) (by decide)
    have b := F.one 1 2 (by decide) (by decide) (by decide)
    have c := F.one 0 2 (by decide) (by decide) (by decide)
    simp only [Ord.m] at a b c
    rcases hm with rfl | rfl | rfl <;> simp at a b c <;> omega
  obtain ⟨Ds, hDs⟩ : ∃ Ds, conv (cf [1, 1]) Ds = fun n => w64 (aC G n) := by
    refine ⟨conv (ser [1] [1, 1]) (fun n => w64 (aC G n)), ?_⟩
    rw [← conv_assoc', ser_eq (by rfl), cf_unit]
    funext n; rw [one_conv]
  have hd : ∀ s, s < 3 → ∀ n, n ≤ N + 1 → w64 (dC G s n) = Ds n := fun s hs => cancel_le (f := cf [1, 1]) (by rfl) (n := N + 1) (fun n hn => by rw [d_two I hF hs hn, hDs])
  have hXe : ∀ m, ∃ X, 2 ≤ m → conv (cf (ones m)) X = Ds := by
    intro m
    refine ⟨conv (ser [1] (ones m)) Ds, fun hm => ?_⟩
    rw [← conv_assoc', ser_eq (by rw [cf_ones, if_pos (by omega)]), cf_unit]
    funext n; rw [one_conv]
  obtain ⟨X, hX⟩ := Classical.axiomOfChoice hXe
  have hb : ∀ s t, s < 3 → t < 3 → s ≠ t → ∀ n, n ≤ N + 1 → w64 (bC G s t n) = if o.m s t = 0 then Ds n + Ds n - w64 (aC G n) else X (o.m s t) n := by
    intro s t hs ht hst n hn
    by_cases h0 : o.m s t = 0
    · rw [if_pos h0]
      have := congrArg w64 (b_ideal I hst h0 n)
      rw [w64_add, w64_add, hd s hs n hn, hd t ht n hn] at this
      grind
    · rw [if_neg h0]
      have h1 := F.one s t hs ht hst
      refine cancel_le (f := cf (ones (o.m s t))) (g := fun k => w64 (bC G s t k)) (h := X (o.m s t)) (by rw [cf_ones, if_pos (by omega)]) (n := N + 1) (fun k hk => ?_) n hn
      rw [← d_conv I hF hs ht hst (by omega) hk, hd s hs k hk, hX _ (by omega)]
  have hI : ∀ n, n ≤ N + 1 → w64 (aC G n) + (w64 (bC G 0 1 n) + w64 (bC G 1 2 n) + w64 (bC G 0 2 n)) = 3 * Ds n + one n := by
    intro n hn
    have := congrArg w64 (a_all F I n)
    simp only [w64_add] at this
    rw [hd 0 (by decide) n hn, hd 1 (by decide) n hn, hd 2 (by decide) n hn] at this
    rw [this]
    unfold one
    split
    · have : w64 1 = 1 := rfl
      rw [this]; grind
    · have : w64 0 = 0 := rfl
      rw [this]; grind
  have e01 : o.m 0 1 = o.m01 := rfl
  have e12 : o.m 1 2 = o.m12 := rfl
  have e02 : o.m 0 2 = o.m02 := rfl
  refine ring_main (z := 3 - (orders o).length) (X := X) h2 ?_ hDs (fun m hm => hX m (h2 m hm)) (fun n hn => ?_)
  · unfold orders
    have := List.length_filter_le (fun x => decide (0 < x)) [o.m01, o.m12, o.m02]
    simp only [List.length_cons, List.length_nil] at this
    omega
  · have h := hI n hn
    rw [hb 0 1 (by decide) (by decide) (by decide) n hn, hb 1 2 (by decide) (by decide) (by decide) n hn, hb 0 2 (by decide) (by decide) (by decide) n hn, e01, e12, e02] at h
    unfold orders
    by_cases z1 : o.m01 = 0 <;> by_cases z2 : o.m12 = 0 <;> by_cases z3 : o.m02 = 0
    all_goals
      have p1 : decide (0 < o.m01) = !decide (o.m01 = 0) := by rw [Bool.eq_iff_iff]; simp; omega
      have p2 : decide (0 < o.m12) = !decide (o.m12 = 0) := by rw [Bool.eq_iff_iff]; simp; omega
      have p3 : decide (0 < o.m02) = !decide (o.m02 = 0) := by rw [Bool.eq_iff_iff]; simp; omega
      simp only [z1, z2, z3, if_true, if_false] at h
      simp only [List.filter_cons, List.filter_nil, p1, p2, p3, z1, z2, z3, decide_true, decide_false, Bool.not_true, Bool.not_false, if_true, if_false, Bool.false_eq_true, List.map_cons, List.map_nil, sumF, List.length_cons, List.length_nil]
      clear hb hI hX hXe hd hDs h2 p1 p2 p3 z1 z2 z3 e01 e12 e02 hF I F hn
      have b3 : BitVec.ofNat 64 3 = (3 : HySer.R) := rfl
      have b2 : BitVec.ofNat 64 2 = (2 : HySer.R) := rfl
      have b1 : BitVec.ofNat 64 1 = (1 : HySer.R) := rfl
      have b0 : BitVec.ofNat 64 0 = (0 : HySer.R) := rfl
      simp only [Nat.lt_irrefl, decide_false, Bool.false_eq_true, if_false, List.map_cons, List.map_nil, sumF, List.length_cons, List.length_nil, Nat.reduceAdd, Nat.reduceSub, b3, b2, b1, b0]
      clear b3 b2 b1 b0
      generalize w64 (aC G n) = a at *
      generalize Ds n = d at *
      generalize one n = u at *
      try generalize X o.m01 n = x1 at *
      try generalize X o.m12 n = x2 at *
      try generalize X o.m02 n = x3 at *
      grind
end Hy

/- Plain Lean: two graphs that hold the same rings count the same; the first rings make a disc. -/
set_option linter.unusedSimpArgs false
set_option linter.unusedVariables false
namespace Hy

section
variable {o : Ord} {G G' : List Node}

/-- All tiles with shorter words have all of their sides. -/
def Upto (G : List Node) (k : Nat) : Prop := ∀ x, x < G.length → (wd G x).length < k → ∀ s, s < 3 → ∃ j, tod G x s = some j
theorem Upto.less {k k' : Nat} (h : Upto G k) (hk : k' ≤ k) : Upto G k' := fun x hx hl => h x hx (by omega)
theorem Lev.upto {i : Nat} {ring : List Nat} (h : Lev o G i ring) : Upto G i := h.full

/-- In a graph that holds all tiles up to a length all short words lead somewhere. -/
theorem full_leads (I : Inv o G No) {n : Nat} (hF : Upto G n) : ∀ (k : Nat) (w : Word), w.length = k → Lets w → k ≤ n → ∃ j, Leads G 0 w j ∧ j < G.length ∧ (wd G j).length ≤ w.length
  | 0, w, hk, hw, _ => by
    have : w = [] := List.length_eq_zero_iff.1 hk
    subst this
    exact ⟨0, rfl, I.pos, by rw [I.root]; exact Nat.le_refl _⟩
  | k + 1, w, hk, hw, hn => by
    have hne : w ≠ [] := fun e => by rw [e] at hk; cases hk
    obtain ⟨u, c, rfl⟩ : ∃ u c, w = u ++ [c] := ⟨w.dropLast, w.getLast hne, (List.dropLast_concat_getLast hne).symm⟩
    rw [List.length_append, List.length_singleton] at hk
    obtain ⟨hu, hc⟩ := Lets.app.1 hw
    have hc3 : c.toNat < 3 := hc c (by simp)
    obtain ⟨i, h1, h2, h3⟩ := full_leads I hF k u (by omega) hu (by omega)
    obtain ⟨j, hj⟩ := hF i h2 (by omega) c.toNat hc3
    have hjl := tod_lt (I.sym hj).2
    refine ⟨j, leads_append.2 ⟨i, h1, j, hj, rfl⟩, hjl, ?_⟩
    rw [List.length_append, List.length_singleton]
    cases hd : dnb G i c.toNat with
    | true =>
      obtain ⟨j', h6⟩ := I.lo_of hd
      have h7 := I.lo' h6
      rw [hj] at h7
      have e : j = j' := by simpa using h7.2.2.1
      subst e
      omega
    | false => have := (I.rise hj hd).2; omega

/-- The same tile in another graph. -/
theorem mate (F : Fine o) (I : Inv o G No) (I' : Inv o G' No) {n : Nat} (hF' : Upto G' n) {i : Nat} (hi : i < G.length) (hl : (wd G i).length ≤ n) : ∃ j, j < G'.length ∧ wd G i = wd G' j := by
  have h1 := word_leads I _ i (Nat.le_refl _) hi
  obtain ⟨j, h2, h3, _⟩ := full_leads I' hF' _ (wd G i) rfl (I.lets i) hl
  exact ⟨j, h3, (nf_of_leads F I (I.lets i) h1).uniq (nf_of_leads F I' (I.lets i) h2)⟩

/-- Which sides lead down hangs on the word alone. -/
theorem mate_down (F : Fine o) (I : Inv o G No) (I' : Inv o G' No) {i j : Nat} (hi : i < G.length) (hj : j < G'.length) (he : wd G i = wd G' j) {s : Nat} (hs : s < 3) : dnb G i s = dnb G' j s := by
  have key : ∀ {H : List Node} (IH : Inv o H No) {a : Nat}, a < H.length → ∃ n, IsNF o (wd H a ++ letter s) n ∧ (dnb H a s = true ↔ n.length < (wd H a).length) := fun {H} IH {a} ha => by
    obtain ⟨H', y, b, I2, X, hl⟩ := grow_to F IH ha (lets_letter hs)
    have e := leads_append.2 ⟨a, by have := leads_ext X (word_leads IH _ a (Nat.le_refl _) ha); exact this, hl⟩
    have hL : Lets (wd H a ++ letter s) := Lets.app.2 ⟨IH.lets a, lets_letter hs⟩
    refine ⟨_, nf_of_leads F I2 hL e, ?_⟩
    obtain ⟨y', hy', e2⟩ := (leads_letter (G := H') (x := a) (y := y) (w := []) hs).1 (by rw [List.append_nil]; exact hl)
    cases e2
    rw [← X.hdnb ha, ← X.hwd ha]
    cases hd : dnb H' a s with
    | true =>
      obtain ⟨b', h6⟩ := I2.lo_of hd
      have h7 := I2.lo' h6
      rw [hy'] at h7
      have e : y = b' := by simpa using h7.2.2.1
      subst e
      simp; omega
    | false => have := (I2.rise hy' hd).2; simp; omega
  obtain ⟨n1, h1, k1⟩ := key I hi
  obtain ⟨n2, h2, k2⟩ := key I' hj
  rw [he] at h1 k1
  rw [h1.uniq h2] at k1
  rw [Bool.eq_iff_iff]
  exact k1.trans k2.symm

/-- Two graphs that hold the same rings count the same. -/
theorem same_count (F : Fine o) (I : Inv o G No) (I' : Inv o G' No) {k : Nat} (hF : Upto G k) (hF' : Upto G' k) (P : (Nat → Bool) → Bool) (hP3 : ∀ d d' : Nat → Bool, (∀ s, s < 3 → d s = d' s) → P d = P d') :
    cnt (fun i => ln G i == k && P (dnb G i)) G.length = cnt (fun i => ln G' i == k && P (dnb G' i)) G'.length := by
  have pp : ∀ i j, i < G.length → j < G'.length → wd G i = wd G' j → P (dnb G i) = P (dnb G' j) := fun i j hi hj he => hP3 _ _ (fun s hs => mate_down F I I' hi hj he hs)
  refine cnt_rel (fun i j => i < G.length ∧ j < G'.length ∧ wd G i = wd G' j) ?_ ?_ ?_ ?_
  · intro i hi h
    simp only [Bool.and_eq_true, beq_iff_eq] at h
    obtain ⟨j, h1, h2⟩ := mate F I I' hF' hi (by have := h.1; unfold ln at this; omega)
    refine ⟨j, h1, ?_, hi, h1, h2⟩
    simp only [Bool.and_eq_true, beq_iff_eq]
    refine ⟨?_, by rw [← pp i j hi h1 h2]; exact h.2⟩
    have := h.1
    unfold ln at this ⊢
    rw [← h2]; exact this
  · intro j hj h
    simp only [Bool.and_eq_true, beq_iff_eq] at h
    obtain ⟨i, h1, h2⟩ := mate F I' I hF hj (by have := h.1; unfold ln at this; omega)
    have hl : ln G i = k := by have := h.1; unfold ln at this ⊢; rw [← h2]; exact this
    refine ⟨i, h1, ?_, h1, hj, h2.symm⟩
    simp only [Bool.and_eq_true, beq_iff_eq]
    exact ⟨hl, by rw [pp i j h1 hj h2.symm]; exact h.2⟩
  · rintro i i' j ⟨h1, h2, h3⟩ ⟨h4, h5, h6⟩
    exact word_inj I h1 h4 (h3.trans h6.symm)
  · rintro i j j' ⟨h1, h2, h3⟩ ⟨h4, h5, h6⟩
    exact word_inj I' h2 h5 (h3.symm.trans h6)

theorem same_a (F : Fine o) (I : Inv o G No) (I' : Inv o G' No) {k : Nat} (hF : Upto G k) (hF' : Upto G' k) : aC G k = aC G' k := by
  have := same_count F I I' hF hF' (fun _ => true) (fun _ _ _ => rfl)
  simpa [aC] using this
theorem same_d (F : Fine o) (I : Inv o G No) (I' : Inv o G' No) {k s : Nat} (hs : s < 3) (hF : Upto G k) (hF' : Upto G' k) : dC G s k = dC G' s k :=
  same_count F I I' hF hF' (fun d => !d s) (fun d d' h => by rw [h s hs])
theorem same_b (F : Fine o) (I : Inv o G No) (I' : Inv o G' No) {k s t : Nat} (hs : s < 3) (ht : t < 3) (hF : Upto G k) (hF' : Upto G' k) : bC G s t k = bC G' s t k :=
  same_count F I I' hF hF' (fun d => !d s && !d t) (fun d d' h => by rw [h s hs, h t ht])
end

/-- The sum of the first n numbers. -/
def sumN (f : Nat → Nat) : Nat → Nat
  | 0 => 0
  | n + 1 => sumN f n + f n
theorem sumN_congr {f g : Nat → Nat} : ∀ {n : Nat}, (∀ i, i < n → f i = g i) → sumN f n = sumN g n
  | 0, _ => rfl
  | n + 1, h => by rw [sumN, sumN, sumN_congr (fun i hi => h i (by omega)), h n (by omega)]

/-- The corners, the sides and the tiles of a ring. -/
def pC (o : Ord) (G : List Node) (k : Nat) : Nat := (if 0 < o.m 1 2 then bC G 1 2 k else 0) + (if 0 < o.m 0 2 then bC G 0 2 k else 0) + (if 0 < o.m 0 1 then bC G 0 1 k else 0)
def sC (G : List Node) (k : Nat) : Nat := dC G 0 k + dC G 1 k + dC G 2 k

theorem disc {o : Ord} {G : List Node} (F : Fine o) (I : Inv o G No) (h1 : 0 < o.m 1 2) (h2 : 0 < o.m 0 2) (h3 : 0 < o.m 0 1) : ∀ n, sumN (aC G) (n + 1) + sumN (pC o G) (n + 1) = sumN (sC G) (n + 1) + 1
  | 0 => by
    have := a_all F I 0
    simp only [sumN, pC, sC, h1, h2, h3, if_true] at this ⊢
    omega
  | n + 1 => by
    have h := a_all F I (n + 1)
    have ih := disc F I h1 h2 h3 n
    rw [if_neg (by omega)] at h
    show sumN (aC G) (n + 1) + aC G (n + 1) + (sumN (pC o G) (n + 1) + pC o G (n + 1)) = sumN (sC G) (n + 1) + sC G (n + 1) + 1
    have e1 : pC o G (n + 1) = bC G 1 2 (n + 1) + bC G 0 2 (n + 1) + bC G 0 1 (n + 1) := by simp only [pC, h1, h2, h3, if_true]
    have e2 : sC G (n + 1) = dC G 0 (n + 1) + dC G 1 (n + 1) + dC G 2 (n + 1) := rfl
    omega

theorem same_p {o : Ord} {G G' : List Node} (F : Fine o) (I : Inv o G No) (I' : Inv o G' No) {k : Nat} (hF : Upto G k) (hF' : Upto G' k) : pC o G k = pC o G' k := by
  unfold pC
  rw [same_b F I I' (by omega) (by omega) hF hF', same_b F I I' (by omega : (0 : Nat) < 3) (by omega : (2 : Nat) < 3) hF hF', same_b F I I' (by omega : (0 : Nat) < 3) (by omega : (1 : Nat) < 3) hF hF']
theorem same_s {o : Ord} {G G' : List Node} (F : Fine o) (I : Inv o G No) (I' : Inv o G' No) {k : Nat} (hF : Upto G k) (hF' : Upto G' k) : sC G k = sC G' k := by
  unfold sC
  rw [same_d F I I' (by omega) hF hF', same_d F I I' (by omega : (1 : Nat) < 3) hF hF', same_d F I I' (by omega : (2 : Nat) < 3) hF hF']

/-- The words of a ring, in ascending order: strictly. -/
theorem ring_strict {o : Ord} {G : List Node} {n : Nat} {ring : List Nat} (L : Lev o G n ring) {l : List Word} (hp : l.Perm (ring.map (wd G))) (hs : l.Pairwise (fun a b => less b a = false)) : l.Pairwise (fun a b => less a b = true) := by
  have hnd : (ring.map (wd G)).Nodup := by
    rw [List.nodup_iff_pairwise_ne, List.pairwise_map]
    refine List.Pairwise.imp_of_mem (fun {a b} ha hb hab e => ?_) (List.nodup_iff_pairwise_ne.1 L.nd)
    exact hab (word_inj L.inv ((L.mem a).1 ha).1 ((L.mem b).1 hb).1 e)
  have hnl : l.Nodup := hp.nodup_iff.2 hnd
  refine List.Pairwise.imp₂ (R := fun a b => less b a = false) (S := fun a b => a ≠ b) (fun a b h1 h2 => ?_) hs (List.nodup_iff_pairwise_ne.1 hnl)
  cases h : less a b with
  | true => rfl
  | false => exact absurd (less_total h h1) h2

theorem ring_words {o : Ord} {G : List Node} (F : Fine o) {n : Nat} {ring : List Nat} (L : Lev o G n ring) {l : List Word} (hp : l.Perm (ring.map (wd G))) : ∀ w ∈ l, w.length = n ∧ Lets w ∧ IsNF o w w := by
  intro w hw
  obtain ⟨x, hx, rfl⟩ := List.mem_map.1 (hp.mem_iff.1 hw)
  have h1 := (L.mem x).1 hx
  exact ⟨h1.2, L.inv.lets x, nf_of_leads F L.inv (L.inv.lets x) (word_leads L.inv _ x (Nat.le_refl _) h1.1)⟩
end Hy

/- Plain Lean: the rings as the program gathers them. -/
set_option linter.unusedSimpArgs false
set_option linter.unusedVariables false
namespace Hy

/-- The first n sides of a ring's tiles have been looked at. -/
def gathN (o : Ord) (k : Nat) (ring : List Nat) (G : List Node) : Nat → Option (List Node × List Nat)
  | 0 => some (G, [])
  | n + 1 => (gathN o k ring G n).bind fun st => (stepL 1000 o 1000 st.1 (ring.getD (n / 3) 0) (n % 3)).map fun r => (r.1, if k < (wd r.1 r.2).length ∧ r.2 ∉ st.2 then st.2 ++ [r.2] else st.2)
/-- The graph and the ring at the yield of the ring k. -/
def levF (o : Ord) : Nat → Option (List Node × List Nat)
  | 0 => some (start, [0])
  | k + 1 => (levF o k).bind fun st => gathN o k st.2 st.1 (3 * st.2.length)

theorem gath_step {o : Ord} {k : Nat} {ring : List Nat} {G0 G G2 : List Node} {next : List Nat} {p s x y : Nat} (h : gathN o k ring G0 (3 * p + s) = some (G, next)) (hx : ring[p]? = some x) (hs : s < 3) (ht : stepL 1000 o 1000 G x s = some (G2, y)) :
    gathN o k ring G0 (3 * p + (s + 1)) = some (G2, if k < (wd G2 y).length ∧ y ∉ next then next ++ [y] else next) := by
  show gathN o k ring G0 (3 * p + s + 1) = _
  unfold gathN
  rw [h]
  have e1 : (3 * p + s) / 3 = p := by omega
  have e2 : (3 * p + s) % 3 = s := by omega
  simp only [Option.bind_some, e1, e2, List.getD, hx, Option.getD_some, ht, Option.map_some]

/-- The next ring can be gathered. -/
theorem gath_ok {o : Ord} (F : Fine o) {k : Nat} (hk : k < 900) {G0 : List Node} {ring : List Nat} (L : Lev o G0 k ring) : ∀ n, n ≤ 3 * ring.length → ∃ G next, gathN o k ring G0 n = some (G, next) ∧ Mid o G0 G k ring (n / 3) (n % 3) next
  | 0, _ => ⟨G0, [], rfl, Mid.begin L⟩
  | n + 1, hn => by
    obtain ⟨G, next, h1, h2⟩ := gath_ok F hk L n (by omega)
    have hp : n / 3 < ring.length := by omega
    have hx : ring[n / 3]? = some ring[n / 3] := List.getElem?_eq_getElem hp
    have hx0 := (L.mem _).1 (List.mem_of_getElem? hx)
    have hxl := Nat.lt_of_lt_of_le hx0.1 h2.len
    have hxw : (wd G ring[n / 3]).length = k := by rw [h2.hwd _ hx0.1]; exact hx0.2
    obtain ⟨G2, y, hst, I2, X2, ht, _⟩ := step_ok F (lim := 1000) 1000 No G _ (n % 3) h2.inv hxl (by omega) (by simp; omega) (fun _ h => h.elim)
    have hm := Mid.step L h2 hx (by omega) I2 X2 ht
    have hg := gath_step (p := n / 3) (s := n % 3) (by rw [show 3 * (n / 3) + n % 3 = n by omega]; exact h1) hx (by omega) hst
    rw [show 3 * (n / 3) + (n % 3 + 1) = n + 1 by omega] at hg
    refine ⟨_, _, hg, ?_⟩
    by_cases h3 : n % 3 = 2
    · rw [show (n + 1) / 3 = n / 3 + 1 by omega, show (n + 1) % 3 = 0 by omega]
      rw [h3] at hm
      exact hm.row
    · rw [show (n + 1) / 3 = n / 3 by omega, show (n + 1) % 3 = n % 3 + 1 by omega]
      exact hm

/-- All rings can be gathered; the old tiles stay. -/
theorem lev_ok {o : Ord} (F : Fine o) : ∀ k, k ≤ 900 → ∃ G ring, levF o k = some (G, ring) ∧ Lev o G k ring
  | 0, _ => ⟨start, [0], rfl, Lev.begin o⟩
  | k + 1, hk => by
    obtain ⟨G, ring, h1, L⟩ := lev_ok F k (by omega)
    obtain ⟨G', next, h2, h3⟩ := gath_ok F (by omega) L (3 * ring.length) (Nat.le_refl _)
    rw [show 3 * ring.length / 3 = ring.length by omega, show 3 * ring.length % 3 = 0 by omega] at h3
    refine ⟨G', next, ?_, h3.end L⟩
    show (levF o k).bind _ = _
    rw [h1]
    exact h2
theorem lev_of {o : Ord} (F : Fine o) {k : Nat} (hk : k ≤ 900) {G : List Node} {ring : List Nat} (h : levF o k = some (G, ring)) : Lev o G k ring := by
  obtain ⟨G', ring', h1, L⟩ := lev_ok F k hk
  rw [h] at h1
  cases h1
  exact L
theorem lev_next {o : Ord} (F : Fine o) {k : Nat} (hk : k < 900) {G G' : List Node} {ring ring' : List Nat} (h : levF o k = some (G, ring)) (h' : levF o (k + 1) = some (G', ring')) : G.length ≤ G'.length ∧ ∀ x, x < G.length → wd G' x = wd G x := by
  have L := lev_of F (by omega) h
  obtain ⟨G2, next, h2, h3⟩ := gath_ok F (by omega) L (3 * ring.length) (Nat.le_refl _)
  have e : levF o (k + 1) = some (G2, next) := by
    show (levF o k).bind _ = _
    rw [h]
    exact h2
  rw [h'] at e
  cases e
  exact ⟨h3.len, h3.hwd⟩
end Hy
