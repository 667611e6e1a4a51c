/- Plain Lean: actions of letters on points; their points in the order of words; numberings. -/
import Derived.Test.YtfdklmpkienfhaaGreatOrd
set_option linter.unusedSimpArgs false
set_option linter.unusedVariables false
namespace Cov

/-- A letter takes a point to a point. -/
abbrev Fn := Nat → Nat → Nat

/-- The letters keep to n points. -/
def Into (f : Fn) (n : Nat) : Prop := ∀ i x, i < 3 → x < n → f i x < n
/-- Each letter leads back. -/
def Inv2 (f : Fn) (n : Nat) : Prop := ∀ i x, i < 3 → x < n → f i (f i x) = x

/-- The word i j, m times. -/
def rounds (f : Fn) (i j : Nat) : Nat → Nat → Nat
  | 0, x => x
  | m + 1, x => rounds f i j m (f j (f i x))

theorem rounds_lt {f : Fn} {n : Nat} (h : Into f n) {i j : Nat} (hi : i < 3) (hj : j < 3) : ∀ (m : Nat) {x : Nat}, x < n → rounds f i j m x < n
  | 0, _, hx => hx
  | m + 1, x, hx => rounds_lt h hi hj m (h j _ hj (h i x hi hx))
theorem rounds_succ (f : Fn) (i j : Nat) : ∀ (m x : Nat), rounds f i j (m + 1) x = f j (f i (rounds f i j m x))
  | 0, _ => rfl
  | m + 1, x => by rw [rounds, rounds_succ f i j m]; rfl
theorem rounds_back {f : Fn} {n : Nat} (h : Into f n) (h2 : Inv2 f n) {i j : Nat} (hi : i < 3) (hj : j < 3) : ∀ (m : Nat) {x : Nat}, x < n → rounds f j i m (rounds f i j m x) = x
  | 0, _, _ => rfl
  | m + 1, x, hx => by
    rw [rounds_succ f i j, rounds]
    have hz := rounds_lt h hi hj m hx
    rw [h2 j _ hj (h i _ hi hz), h2 i _ hi hz]
    exact rounds_back h h2 hi hj m hx
theorem rounds_turn {f : Fn} {n : Nat} (h : Into f n) (h2 : Inv2 f n) {i j : Nat} (hi : i < 3) (hj : j < 3) {m : Nat} (hm : ∀ x, x < n → rounds f i j m x = x) : ∀ x, x < n → rounds f j i m x = x := fun x hx => by
  have := rounds_back h h2 hi hj m hx
  rwa [hm x hx] at this

/-- The conditions of an action, but that words lead to all points: as the program looks at them. -/
def Holds (o : Hy.Ord) (f : Fn) (n : Nat) : Prop := ∀ x, x < n → ∀ i, i < 3 → f i (f i x) = x ∧ ∀ j, j < i → rounds f i j (o.m i j) x = x
/-- .. and as the specification does. -/
def HoldsR (o : Hy.Ord) (f : Fn) (n : Nat) : Prop := ∀ x, x < n → ∀ i, i < 3 → f i (f i x) = x ∧ ∀ j, i < j → j < 3 → rounds f i j (o.m i j) x = x

theorem ord_m_comm (o : Hy.Ord) (i j : Nat) : o.m i j = o.m j i := by
  unfold Hy.Ord.m
  rw [Nat.add_comm i j]
theorem holds_same {o : Hy.Ord} {f : Fn} {n : Nat} (h : Into f n) : Holds o f n ↔ HoldsR o f n := by
  constructor
  · intro H x hx i hi
    refine ⟨(H x hx i hi).1, fun j hij hj => ?_⟩
    rw [ord_m_comm]
    exact rounds_turn h (fun i x hi hx => (H x hx i hi).1) hj hi (fun x hx => (H x hx j hj).2 i hij) x hx
  · intro H x hx i hi
    refine ⟨(H x hx i hi).1, fun j hji => ?_⟩
    rw [ord_m_comm]
    exact rounds_turn h (fun i x hi hx => (H x hx i hi).1) (by omega) hi (fun x hx => (H x hx j (by omega)).2 i hji hi) x hx

/-- One letter of one point is looked at. -/
def met1 (f : Fn) (L : List Nat) (k i : Nat) : List Nat := if f i (L.getD k 0) ∈ L then L else L ++ [f i (L.getD k 0)]
/-- The first s letters of it. -/
def metR (f : Fn) (L : List Nat) (k : Nat) : Nat → List Nat
  | 0 => L
  | s + 1 => met1 f (metR f L k s) k s
/-- The points that are known when the first k have been looked at. -/
def metS (f : Fn) (p : Nat) : Nat → List Nat
  | 0 => [p]
  | k + 1 => if k < (metS f p k).length then metR f (metS f p k) k 3 else metS f p k
/-- All points to which words lead, in the order of their words. -/
def met (f : Fn) (n p : Nat) : List Nat := metS f p n

theorem met1_pre (f : Fn) (L : List Nat) (k i : Nat) : ∃ T, met1 f L k i = L ++ T := by
  unfold met1
  split
  · exact ⟨[], by simp⟩
  · exact ⟨_, rfl⟩
theorem metR_pre (f : Fn) (L : List Nat) (k : Nat) : ∀ s, ∃ T, metR f L k s = L ++ T
  | 0 => ⟨[], by simp [metR]⟩
  | s + 1 => by
    obtain ⟨T, h⟩ := metR_pre f L k s
    obtain ⟨T', h'⟩ := met1_pre f (metR f L k s) k s
    exact ⟨T ++ T', by rw [metR, h', h, List.append_assoc]⟩
theorem metS_pre (f : Fn) (p : Nat) {k : Nat} : ∀ {m : Nat}, k ≤ m → ∃ T, metS f p m = metS f p k ++ T
  | 0, h => by obtain rfl : k = 0 := by omega
               exact ⟨[], by simp⟩
  | m + 1, h => by
    rcases Nat.lt_or_ge k (m + 1) with h1 | h1
    · obtain ⟨T, hT⟩ := metS_pre f p (k := k) (m := m) (by omega)
      rw [metS]
      split
      · obtain ⟨T', hT'⟩ := metR_pre f (metS f p m) m 3
        exact ⟨T ++ T', by rw [hT', hT, List.append_assoc]⟩
      · exact ⟨T, hT⟩
    · obtain rfl : k = m + 1 := by omega
      exact ⟨[], by simp⟩

theorem nodup_sub {α : Type} [DecidableEq α] : ∀ {l m : List α}, l.Nodup → (∀ x ∈ l, x ∈ m) → l.length ≤ m.length
  | [], _, _, _ => Nat.zero_le _
  | a :: l, m, hn, h => by
    obtain ⟨h1, h2⟩ := List.nodup_cons.1 hn
    have ha := h a List.mem_cons_self
    have h3 := nodup_sub (l := l) (m := m.erase a) h2 (fun x hx => (List.mem_erase_of_ne (fun (e : x = a) => h1 (e ▸ hx))).2 (h x (List.mem_cons_of_mem _ hx)))
    have h4 := List.length_erase_of_mem ha
    have h5 := List.length_pos_of_mem ha
    simp only [List.length_cons]
    omega

/-- The list of points is a list of different points. -/
structure Pts (n : Nat) (L : List Nat) : Prop where
  lt : ∀ x ∈ L, x < n
  nd : L.Nodup
theorem Pts.len {n : Nat} {L : List Nat} (h : Pts n L) : L.length ≤ n := by
  have := nodup_sub h.nd (m := List.range n) (fun x hx => List.mem_range.2 (h.lt x hx))
  rwa [List.length_range] at this
theorem Pts.get {n : Nat} {L : List Nat} (h : Pts n L) {k : Nat} (hk : k < L.length) : L.getD k 0 < n := by
  rw [List.getD, List.getElem?_eq_getElem hk]
  exact h.lt _ (List.getElem_mem hk)
theorem Pts.met1 {f : Fn} {n : Nat} (hf : Into f n) {L : List Nat} (h : Pts n L) {k i : Nat} (hk : k < L.length) (hi : i < 3) : Pts n (met1 f L k i) := by
  unfold Cov.met1
  split
  · exact h
  · rename_i hy
    refine ⟨fun x hx => ?_, ?_⟩
    · rcases List.mem_append.1 hx with hx | hx
      · exact h.lt x hx
      · simp at hx
        subst hx
        exact hf i _ hi (h.get hk)
    · rw [List.nodup_append]
      refine ⟨h.nd, by simp, fun a ha b hb e => ?_⟩
      simp at hb
      subst hb
      subst e
      exact hy ha
theorem Pts.metR {f : Fn} {n : Nat} (hf : Into f n) {L : List Nat} (h : Pts n L) {k : Nat} (hk : k < L.length) : ∀ s, s ≤ 3 → Pts n (metR f L k s)
  | 0, _ => h
  | s + 1, hs => by
    obtain ⟨T, hT⟩ := metR_pre f L k s
    exact (Pts.metR hf h hk s (by omega)).met1 hf (by rw [hT, List.length_append]; omega) (by omega)
theorem pts_metS {f : Fn} {n p : Nat} (hf : Into f n) (hp : p < n) : ∀ k, Pts n (metS f p k)
  | 0 => ⟨fun x hx => by simp [metS] at hx; omega, by simp [metS]⟩
  | k + 1 => by
    rw [metS]
    split
    · rename_i hk
      exact (pts_metS hf hp k).metR hf hk 3 (Nat.le_refl _)
    · exact pts_metS hf hp k
theorem metS_stop {f : Fn} {p k : Nat} (h : (metS f p k).length ≤ k) : ∀ m, k ≤ m → metS f p m = metS f p k
  | 0, hm => by obtain rfl : k = 0 := by omega
                rfl
  | m + 1, hm => by
    rcases Nat.lt_or_ge k (m + 1) with h1 | h1
    · have ih := metS_stop h m (by omega)
      rw [metS, ih, if_neg (by omega)]
    · obtain rfl : k = m + 1 := by omega
      rfl
/-- Where the list is at its end, it is the whole. -/
theorem met_end {f : Fn} {n p k : Nat} (hf : Into f n) (hp : p < n) (h : (metS f p k).length = k) : metS f p k = met f n p := by
  have := (pts_metS hf hp k).len
  exact (metS_stop (by omega) n (by omega)).symm
theorem pts_met {f : Fn} {n p : Nat} (hf : Into f n) (hp : p < n) : Pts n (met f n p) := pts_metS hf hp n
theorem metR_has {f : Fn} {L : List Nat} {k : Nat} (hk : k < L.length) : ∀ s, ∀ i, i < s → f i (L.getD k 0) ∈ metR f L k s
  | 0, i, hi => by omega
  | s + 1, i, hi => by
    obtain ⟨T', hT'⟩ := metR_pre f L k s
    have eg : (metR f L k s).getD k 0 = L.getD k 0 := by
      rw [hT', List.getD, List.getD, List.getElem?_append_left hk]
    rw [metR]
    rcases Nat.lt_or_ge i s with h1 | h1
    · obtain ⟨T2, hT2⟩ := met1_pre f (metR f L k s) k s
      rw [hT2]
      exact List.mem_append_left _ (metR_has hk s i h1)
    · obtain rfl : i = s := by omega
      unfold met1
      rw [eg]
      split
      · rename_i hin; exact hin
      · simp
/-- The points that have been looked at lead to known points. -/
theorem metS_done (f : Fn) (p : Nat) : ∀ k j, j < k → j < (metS f p k).length → ∀ i, i < 3 → f i ((metS f p k).getD j 0) ∈ metS f p k
  | 0, j, hj, _, _, _ => by omega
  | k + 1, j, hj, hl, i, hi => by
    by_cases hk : k < (metS f p k).length
    · have e : metS f p (k + 1) = metR f (metS f p k) k 3 := by rw [metS, if_pos hk]
      obtain ⟨T, hT⟩ := metR_pre f (metS f p k) k 3
      have eg : (metR f (metS f p k) k 3).getD j 0 = (metS f p k).getD j 0 := by
        rw [hT, List.getD, List.getD, List.getElem?_append_left (by omega)]
      rw [e, eg]
      rcases Nat.lt_or_ge j k with h1 | h1
      · rw [hT]
        exact List.mem_append_left _ (metS_done f p k j h1 (by omega) i hi)
      · obtain rfl : j = k := by omega
        exact metR_has hk 3 i hi
    · have e : metS f p (k + 1) = metS f p k := by rw [metS, if_neg hk]
      rw [e] at hl ⊢
      exact metS_done f p k j (by omega) hl i hi
theorem met_closed {f : Fn} {n p : Nat} (hf : Into f n) (hp : p < n) {x i : Nat} (hx : x ∈ met f n p) (hi : i < 3) : f i x ∈ met f n p := by
  have hl := (pts_met hf hp).len
  obtain ⟨j, hj⟩ := List.getElem?_of_mem hx
  have hjl : j < (met f n p).length := (List.getElem?_eq_some_iff.1 hj).1
  have hxe : (met f n p).getD j 0 = x := by rw [List.getD, hj]; rfl
  rw [← hxe]
  exact metS_done f p n j (by omega) hjl i hi
theorem met_self (f : Fn) (n p : Nat) : p ∈ met f n p := by
  obtain ⟨T, hT⟩ := metS_pre f p (Nat.zero_le n)
  unfold met
  rw [hT]
  simp [metS]

/-- The place of a point. -/
def place (f : Fn) (n p x : Nat) : Nat := (met f n p).idxOf x
/-- The action with its points numbered from a point on. -/
def num (f : Fn) (n p : Nat) : Fn := fun i k => place f n p (f i ((met f n p).getD k 0))
end Cov
