/- Plain Lean: groups, renumberings, and cuts of tiles. -/
import Derived.Test.YtfdklmpkienfhaaGreatRk
import Derived.Test.YtfdklmpkienfhaaGreatMet

/- Plain Lean: words of the same motion lead to the same point; the points' words are the least that lead there; renumberings. -/
set_option linter.unusedSimpArgs false
set_option linter.unusedVariables false
namespace Cov
open Hy (Word Eqv Lets Le IsNF letter)

theorem ledP_letter (f : Fn) (x : Nat) {s : Nat} (hs : s < 3) : ledP f x (letter s) = f s x := by
  have : (UInt8.ofNat s).toNat = s := by simp only [UInt8.toNat_ofNat']; omega
  show f (UInt8.ofNat s).toNat x = f s x
  rw [this]
theorem ledP_V {f : Fn} {a b : Nat} (ha : a < 3) (hb : b < 3) : ∀ (k x : Nat), ledP f x (Hy.V (k + k) a b) = rounds f a b k x
  | 0, x => rfl
  | k + 1, x => by
    rw [show k + 1 + (k + 1) = (k + k) + 1 + 1 by omega]
    show ledP f x (letter a ++ (letter b ++ Hy.V (k + k) a b)) = _
    rw [ledP_append, ledP_append, ledP_letter f _ ha, ledP_letter f _ hb, ledP_V ha hb k, rounds]

theorem holds_inv {o : Hy.Ord} {f : Fn} {n : Nat} (h : HoldsR o f n) : Inv2 f n := fun i x hi hx => (h x hx i hi).1
theorem rounds_all {o : Hy.Ord} {f : Fn} {n : Nat} (hf : Into f n) (h : HoldsR o f n) {a b : Nat} (ha : a < 3) (hb : b < 3) (hab : a ≠ b) : ∀ x, x < n → rounds f a b (o.m a b) x = x := by
  rcases Nat.lt_or_ge a b with h1 | h1
  · exact fun x hx => (h x hx a ha).2 b h1 hb
  · rw [ord_m_comm]
    exact rounds_turn hf (holds_inv h) hb ha (fun x hx => (h x hx b hb).2 a (by omega) ha)

/-- Words of the same motion lead to the same point. -/
theorem ledP_eqv {o : Hy.Ord} {f : Fn} {n : Nat} (hf : Into f n) (h : HoldsR o f n) {u v : Word} (e : Eqv o u v) : (Lets u ↔ Lets v) ∧ (Lets u → ∀ x, x < n → ledP f x u = ledP f x v) := by
  induction e with
  | refl w => exact ⟨Iff.rfl, fun _ _ _ => rfl⟩
  | symm _ ih => exact ⟨ih.1.symm, fun hl x hx => (ih.2 (ih.1.2 hl) x hx).symm⟩
  | trans _ _ ih1 ih2 => exact ⟨ih1.1.trans ih2.1, fun hl x hx => (ih1.2 hl x hx).trans (ih2.2 (ih1.1.1 hl) x hx)⟩
  | two p q hs =>
    have hl := Hy.lets_letter hs
    refine ⟨by simp only [Lets.app]; exact ⟨fun h => ⟨h.1.1, h.2⟩, fun h => ⟨⟨h.1, hl, hl⟩, h.2⟩⟩, fun hw x hx => ?_⟩
    have hy : ledP f x p < n := ledP_lt hf p (fun c hc => hw c (List.mem_append_left _ (List.mem_append_left _ hc))) hx
    rw [ledP_append, ledP_append, ledP_append, ledP_append, ledP_letter f _ hs, ledP_letter f _ hs, holds_inv h _ _ hs hy]
  | @turn p q a b ha hb hab hm =>
    have hl := Hy.lets_V (k := o.m a b + o.m a b) ha hb
    refine ⟨by simp only [Lets.app]; exact ⟨fun h => ⟨h.1.1, h.2⟩, fun h => ⟨⟨h.1, hl⟩, h.2⟩⟩, fun hw x hx => ?_⟩
    have hy : ledP f x p < n := ledP_lt hf p (fun c hc => hw c (List.mem_append_left _ (List.mem_append_left _ hc))) hx
    rw [ledP_append, ledP_append, ledP_append, ledP_V ha hb, rounds_all hf h ha hb hab _ hy]
theorem ledP_back {f : Fn} {n : Nat} (hf : Into f n) (h : Inv2 f n) : ∀ (w : Word) {x : Nat}, Lets w → x < n → ledP f (ledP f x w) w.reverse = x
  | [], _, _, _ => rfl
  | c :: w, x, hl, hx => by
    have hc := hl c List.mem_cons_self
    have hl' : Lets w := fun d hd => hl d (List.mem_cons_of_mem _ hd)
    rw [List.reverse_cons, ledP_append]
    show f c.toNat (ledP f (ledP f (f c.toNat x) w) w.reverse) = x
    rw [ledP_back hf h w hl' (hf _ _ hc hx), h _ _ hc hx]

/-- A word's points are met. -/
theorem led_met {f : Fn} {n p : Nat} (hf : Into f n) (hp : p < n) : ∀ (w : Word) {x : Nat}, Lets w → x ∈ met f n p → ledP f x w ∈ met f n p
  | [], _, _, hx => hx
  | c :: w, x, hl, hx => led_met hf hp w (fun d hd => hl d (List.mem_cons_of_mem _ hd)) (met_closed hf hp hx (hl c List.mem_cons_self))

/-- The words of the points. -/
def wordsOf (L : List Fnd) : List Word := L.foldl (fun ws e => ws ++ [if e.2.1 < 0 then [] else ws.getD e.2.1.toNat [] ++ letter e.2.2.toNat]) []
theorem wordsOf_snoc (L : List Fnd) (e : Fnd) : wordsOf (L ++ [e]) = wordsOf L ++ [if e.2.1 < 0 then [] else (wordsOf L).getD e.2.1.toNat [] ++ letter e.2.2.toNat] := by
  unfold wordsOf
  rw [List.foldl_append]
  rfl
theorem wordsOf_len (L : List Fnd) : (wordsOf L).length = L.length := by
  have key : ∀ (L : List Fnd) (ws : List Word), (L.foldl (fun ws e => ws ++ [if e.2.1 < 0 then [] else ws.getD e.2.1.toNat [] ++ letter e.2.2.toNat]) ws).length = ws.length + L.length := by
    intro L
    induction L with
    | nil => intro ws; rfl
    | cons e L ih => intro ws; rw [List.foldl_cons, ih]; simp; omega
  simpa [wordsOf] using key L []
theorem getD_app {α : Type} (L M : List α) (d : α) {k : Nat} (h : k < L.length) : (L ++ M).getD k d = L.getD k d := by
  rw [List.getD, List.getD, List.getElem?_append_left h]
theorem getD_last {α : Type} (L : List α) (a d : α) : (L ++ [a]).getD L.length d = a := by
  rw [List.getD, List.getElem?_append_right (Nat.le_refl _)]; simp

/-- What holds when the first k points have been looked at, and s letters of the next. -/
structure Least (f : Fn) (n p : Nat) (L : List Fnd) (k s : Nat) : Prop where
  first : (wordsOf L).getD 0 [] = [] ∧ (fst L).getD 0 0 = p ∧ 0 < L.length
  lets : ∀ m, m < L.length → Lets ((wordsOf L).getD m [])
  to : ∀ m, m < L.length → ledP f p ((wordsOf L).getD m []) = (fst L).getD m 0
  up : ∀ m m', m < m' → m' < L.length → rk ((wordsOf L).getD m []) < rk ((wordsOf L).getD m' [])
  top : ∀ m, m < L.length → rk ((wordsOf L).getD m []) < 3 * rk ((wordsOf L).getD k []) + s + 1
  src : ∀ (m : Nat) (e : Fnd), L[m]? = some e → (m = 0 ∧ e.2 = (-1, -1)) ∨ ∃ j i : Nat, j < m ∧ i < 3 ∧ e.2 = ((j : Int), (i : Int)) ∧ (wordsOf L).getD m [] = (wordsOf L).getD j [] ++ letter i
  has : ∀ j i, i < 3 → (j < k ∨ j = k ∧ i < s) → ∃ m, m < L.length ∧ (fst L).getD m 0 = f i ((fst L).getD j 0) ∧ rk ((wordsOf L).getD m []) ≤ 3 * rk ((wordsOf L).getD j []) + i + 1

theorem Least.start (f : Fn) (n p : Nat) : Least f n p [(p, -1, -1)] 0 0 := by
  have e : wordsOf [(p, -1, -1)] = [[]] := rfl
  refine ⟨⟨rfl, rfl, by simp⟩, ?_, ?_, ?_, ?_, ?_, ?_⟩
  · intro m hm; simp at hm; subst hm; rw [e]; exact fun c hc => by simp at hc
  · intro m hm; simp at hm; subst hm; rw [e]; rfl
  · intro m m' h1 h2; simp at h2; omega
  · intro m hm; simp at hm; subst hm; rw [e]; simp [rk]
  · intro m e hm
    have hml := (List.getElem?_eq_some_iff.1 hm).1
    simp at hml; subst hml
    simp at hm; subst hm
    exact .inl ⟨rfl, rfl⟩
  · intro j i hi h; omega

theorem Least.look {f : Fn} {n p : Nat} {L : List Fnd} {k s : Nat} (h : Least f n p L k s) (hk : k < L.length) (hs : s < 3) : Least f n p (fnd1 f L k s) k (s + 1) := by
  unfold fnd1
  rw [← fst_getD]
  split
  · rename_i hin
    refine ⟨h.first, h.lets, h.to, h.up, fun m hm => by have := h.top m hm; omega, h.src, fun j i hi hj => ?_⟩
    by_cases hold : j < k ∨ j = k ∧ i < s
    · exact h.has j i hi hold
    · obtain ⟨rfl, rfl⟩ : j = k ∧ i = s := by omega
      obtain ⟨m, hm⟩ := List.getElem?_of_mem hin
      have hml : m < L.length := by rw [← fst_len]; exact (List.getElem?_eq_some_iff.1 hm).1
      refine ⟨m, hml, by rw [List.getD, hm]; rfl, ?_⟩
      have := h.top m hml
      omega
  · rename_i hin
    obtain ⟨e, he⟩ : ∃ e : Fnd, e = (f s ((fst L).getD k 0), (k : Int), (s : Int)) := ⟨_, rfl⟩
    rw [← he]
    have hw : wordsOf (L ++ [e]) = wordsOf L ++ [(wordsOf L).getD k [] ++ letter s] := by
      rw [wordsOf_snoc, he, if_neg (by simp)]; rfl
    have hfs : fst (L ++ [e]) = fst L ++ [f s ((fst L).getD k 0)] := by rw [fst_append, he]; rfl
    have hwl := wordsOf_len L
    have hfl := fst_len L
    have old : ∀ m, m < L.length → (wordsOf (L ++ [e])).getD m [] = (wordsOf L).getD m [] := fun m hm => by rw [hw, getD_app _ _ _ (by omega)]
    have oldf : ∀ m, m < L.length → (fst (L ++ [e])).getD m 0 = (fst L).getD m 0 := fun m hm => by rw [hfs, getD_app _ _ _ (by omega)]
    have new : (wordsOf (L ++ [e])).getD L.length [] = (wordsOf L).getD k [] ++ letter s := by rw [hw, ← hwl, getD_last]
    have newf : (fst (L ++ [e])).getD L.length 0 = f s ((fst L).getD k 0) := by rw [hfs, ← hfl, getD_last]
    have hlen : (L ++ [e]).length = L.length + 1 := by simp
    have hrk : rk ((wordsOf L).getD k [] ++ letter s) = 3 * rk ((wordsOf L).getD k []) + s + 1 := rk_snoc _ hs
    have hpos := h.first.2.2
    refine ⟨⟨by rw [old 0 hpos]; exact h.first.1, by rw [oldf 0 hpos]; exact h.first.2.1, by omega⟩, fun m hm => ?_, fun m hm => ?_, fun m m' h1 h2 => ?_, fun m hm => ?_, fun m e' hm => ?_, fun j i hi hj => ?_⟩
    · rcases Nat.lt_or_ge m L.length with h1 | h1
      · rw [old m h1]; exact h.lets m h1
      · obtain rfl : m = L.length := by omega
        rw [new]
        exact Lets.app.2 ⟨h.lets k hk, Hy.lets_letter hs⟩
    · rcases Nat.lt_or_ge m L.length with h1 | h1
      · rw [old m h1, oldf m h1]; exact h.to m h1
      · obtain rfl : m = L.length := by omega
        rw [new, newf, ledP_append, h.to k hk, ledP_letter f _ hs]
    · rcases Nat.lt_or_ge m' L.length with h3 | h3
      · rw [old m (by omega), old m' h3]; exact h.up m m' h1 h3
      · obtain rfl : m' = L.length := by omega
        rw [old m h1, new, hrk]
        exact h.top m h1
    · rw [old k hk]
      rcases Nat.lt_or_ge m L.length with h1 | h1
      · rw [old m h1]; have := h.top m h1; omega
      · obtain rfl : m = L.length := by omega
        rw [new, hrk]; omega
    · rcases Nat.lt_or_ge m L.length with h1 | h1
      · rw [List.getElem?_append_left h1] at hm
        rcases h.src m e' hm with h2 | ⟨j, i, h2, h3, h4, h5⟩
        · exact .inl h2
        · exact .inr ⟨j, i, h2, h3, h4, by rw [old m h1, old j (by omega)]; exact h5⟩
      · have hml := (List.getElem?_eq_some_iff.1 hm).1
        obtain rfl : m = L.length := by omega
        rw [List.getElem?_append_right (Nat.le_refl _)] at hm
        simp at hm
        exact .inr ⟨k, s, hk, hs, by rw [← hm, he], by rw [new, old k hk]⟩
    · have hjl : j < L.length := by omega
      rw [old j hjl, oldf j hjl]
      by_cases hold : j < k ∨ j = k ∧ i < s
      · obtain ⟨m, h1, h2, h3⟩ := h.has j i hi hold
        exact ⟨m, by omega, by rw [oldf m h1]; exact h2, by rw [old m h1]; exact h3⟩
      · obtain ⟨rfl, rfl⟩ : j = k ∧ i = s := by omega
        exact ⟨L.length, by omega, newf, by rw [new, hrk]; omega⟩
theorem Least.next {f : Fn} {n p : Nat} {L : List Fnd} {k : Nat} (h : Least f n p L k 3) (hk : k + 1 < L.length) : Least f n p L (k + 1) 0 :=
  ⟨h.first, h.lets, h.to, h.up, fun m hm => by have := h.top m hm; have := h.up k (k + 1) (by omega) hk; omega, h.src, fun j i hi hj => h.has j i hi (by omega)⟩
theorem Least.looks {f : Fn} {n p : Nat} {L : List Fnd} {k : Nat} (h : Least f n p L k 0) (hk : k < L.length) : ∀ s, s ≤ 3 → Least f n p (fndR f L k s) k s
  | 0, _ => h
  | s + 1, hs => by
    obtain ⟨T, hT⟩ := fndR_pre f L k s
    exact (Least.looks h hk s (by omega)).look (by rw [hT, List.length_append]; omega) (by omega)
/-- .. at the end. -/
theorem least_all {f : Fn} {n p : Nat} (hf : Into f n) (hp : p < n) : ∃ k, Least f n p (fnd f n p) k 3 ∧ (fnd f n p).length ≤ k + 1 := by
  have key : ∀ k, (k < (fndS f p k).length → Least f n p (fndS f p k) k 0) ∧ ((fndS f p k).length ≤ k → ∃ j, Least f n p (fndS f p k) j 3 ∧ (fndS f p k).length ≤ j + 1) := by
    intro k
    induction k with
    | zero => exact ⟨fun _ => Least.start f n p, fun h => by simp [fndS] at h⟩
    | succ k ih =>
      rw [fndS]
      by_cases hk : k < (fndS f p k).length
      · rw [if_pos hk]
        have h3 := (ih.1 hk).looks hk 3 (by omega)
        exact ⟨fun h => h3.next h, fun h => ⟨k, h3, h⟩⟩
      · rw [if_neg hk]
        exact ⟨fun h => by omega, fun h => ih.2 (by omega)⟩
  refine (key n).2 ?_
  have := (pts_metS hf hp n).len
  rw [← fndS_len] at this
  exact this
def W (f : Fn) (n p k : Nat) : Word := (wordsOf (fnd f n p)).getD k []
theorem met_getD (f : Fn) (n p k : Nat) : (fst (fnd f n p)).getD k 0 = (met f n p).getD k 0 := by rw [fnd_fst]
theorem met_length (f : Fn) (n p : Nat) : (fnd f n p).length = (met f n p).length := by rw [← fnd_fst, fst_len]
theorem W_lets {f : Fn} {n p : Nat} (hf : Into f n) (hp : p < n) {k : Nat} (hk : k < (met f n p).length) : Lets (W f n p k) := by
  obtain ⟨_, h, _⟩ := least_all hf hp
  exact h.lets k (by rw [met_length]; exact hk)
theorem W_to {f : Fn} {n p : Nat} (hf : Into f n) (hp : p < n) {k : Nat} (hk : k < (met f n p).length) : ledP f p (W f n p k) = (met f n p).getD k 0 := by
  obtain ⟨_, h, _⟩ := least_all hf hp
  rw [← met_getD]
  exact h.to k (by rw [met_length]; exact hk)
theorem W_up {f : Fn} {n p : Nat} (hf : Into f n) (hp : p < n) {k m : Nat} (hkm : k < m) (hm : m < (met f n p).length) : rk (W f n p k) < rk (W f n p m) := by
  obtain ⟨_, h, _⟩ := least_all hf hp
  exact h.up k m hkm (by rw [met_length]; exact hm)
theorem met_first {f : Fn} {n p : Nat} (hf : Into f n) (hp : p < n) : (met f n p).getD 0 0 = p ∧ W f n p 0 = [] ∧ 0 < (met f n p).length := by
  obtain ⟨_, h, _⟩ := least_all hf hp
  rw [← met_getD, ← met_length]
  exact ⟨h.first.2.1, h.first.1, h.first.2.2⟩
/-- From where a point is found. -/
theorem W_src {f : Fn} {n p : Nat} (hf : Into f n) (hp : p < n) {m : Nat} {e : Fnd} (hm : (fnd f n p)[m]? = some e) : (m = 0 ∧ e.2 = (-1, -1)) ∨ ∃ j i : Nat, j < m ∧ i < 3 ∧ e.2 = ((j : Int), (i : Int)) ∧ W f n p m = W f n p j ++ letter i := by
  obtain ⟨_, h, _⟩ := least_all hf hp
  exact h.src m e hm
theorem W_len {f : Fn} {n p : Nat} (hf : Into f n) (hp : p < n) : ∀ (m : Nat), m < (met f n p).length → (W f n p m).length ≤ m := by
  intro m
  induction m using Nat.strongRecOn with
  | ind m ih =>
    intro hm
    have he : (fnd f n p)[m]? = some ((fnd f n p)[m]'(by rw [met_length]; exact hm)) := List.getElem?_eq_getElem _
    rcases W_src hf hp he with ⟨rfl, _⟩ | ⟨j, i, hj, hi, _, hw⟩
    · rw [(met_first hf hp).2.1]; exact Nat.le_refl _
    · have := ih j hj (by omega)
      rw [hw, List.length_append]
      simp [letter]; omega
theorem getD_inj {L : List Nat} (h : L.Nodup) {i j : Nat} (hi : i < L.length) (hj : j < L.length) (e : L.getD i 0 = L.getD j 0) : i = j := by
  rw [List.getD, List.getD, List.getElem?_eq_getElem hi, List.getElem?_eq_getElem hj] at e
  exact (List.getElem_inj h).1 e
/-- No word that leads to a point stands ahead of the point's word. -/
theorem W_least {f : Fn} {n p : Nat} (hf : Into f n) (hp : p < n) : ∀ (l : Nat) (v : Word), v.length = l → Lets v → ∀ k, k < (met f n p).length → (met f n p).getD k 0 = ledP f p v → rk (W f n p k) ≤ rk v := by
  obtain ⟨z, h, hz⟩ := least_all hf hp
  rw [met_length] at hz
  have hnd := (pts_met hf hp).nd
  intro l
  induction l with
  | zero =>
    intro v hv _ k hk e
    obtain rfl : v = [] := List.length_eq_zero_iff.1 hv
    obtain ⟨h1, h2, h3⟩ := met_first hf hp
    obtain rfl : k = 0 := getD_inj hnd hk h3 (e.trans h1.symm)
    rw [h2]; exact Nat.le_refl _
  | succ l ih =>
    intro v hv hl k hk e
    rcases List.eq_nil_or_concat v with rfl | ⟨a, c, rfl⟩
    · cases hv
    rw [List.concat_eq_append] at hv hl e ⊢
    have hla := (Lets.app.1 hl).1
    have hc := (Lets.app.1 hl).2 c (by simp)
    have hin : ledP f p a ∈ met f n p := led_met hf hp a hla (met_self f n p)
    obtain ⟨j, hj⟩ := List.getElem?_of_mem hin
    have hjl : j < (met f n p).length := (List.getElem?_eq_some_iff.1 hj).1
    have hje : (met f n p).getD j 0 = ledP f p a := by rw [List.getD, hj]; rfl
    have h1 := ih a (by simpa using hv) hla j hjl hje
    obtain ⟨m, hm, h2, h3⟩ := h.has j c.toNat hc (by omega)
    rw [met_length] at hm
    rw [met_getD, met_getD, hje] at h2
    have h4 : ledP f p (a ++ [c]) = f c.toNat (ledP f p a) := by rw [ledP_append]; rfl
    obtain rfl : k = m := getD_inj hnd hk hm (by rw [e, h4, h2])
    have h5 := rk_snoc a hc
    rw [Hy.ofNat_toNat] at h5
    rw [h5]
    have h6 : rk (W f n p k) ≤ 3 * rk (W f n p j) + c.toNat + 1 := h3
    omega
/-- The points' words are normal. -/
theorem W_nf {o : Hy.Ord} {f : Fn} {n p : Nat} (hf : Into f n) (hH : HoldsR o f n) (hp : p < n) {k : Nat} (hk : k < (met f n p).length) : IsNF o (W f n p k) (W f n p k) := by
  refine ⟨.refl _, fun w' e => ?_⟩
  obtain ⟨h1, h2⟩ := ledP_eqv hf hH e
  have hl := h1.2 (W_lets hf hp hk)
  exact rk_le (W_lets hf hp hk) hl (W_least hf hp _ w' rfl hl k hk (by rw [h2 hl p hp, W_to hf hp hk]))
theorem mem_met {f : Fn} {n p : Nat} (hf : Into f n) (hp : p < n) {x : Nat} : x ∈ met f n p ↔ ∃ v, Lets v ∧ ledP f p v = x := by
  constructor
  · intro h
    obtain ⟨j, hj⟩ := List.getElem?_of_mem h
    have hjl := (List.getElem?_eq_some_iff.1 hj).1
    exact ⟨W f n p j, W_lets hf hp hjl, by rw [W_to hf hp hjl, List.getD, hj]; rfl⟩
  · rintro ⟨v, hv, rfl⟩
    exact led_met hf hp v hv (met_self f n p)
theorem full_mem {f : Fn} {n p : Nat} (hf : Into f n) (hp : p < n) (h : (met f n p).length = n) {x : Nat} (hx : x < n) : x ∈ met f n p := by
  have hP := pts_met hf hp
  apply Classical.byContradiction
  intro hn
  have := nodup_sub (l := x :: met f n p) (m := List.range n) (List.nodup_cons.2 ⟨hn, hP.nd⟩) (fun y hy => by
    rcases List.mem_cons.1 hy with rfl | hy
    · exact List.mem_range.2 hx
    · exact List.mem_range.2 (hP.lt y hy))
  simp [h] at this
  omega
theorem full_len {f : Fn} {n p : Nat} (hf : Into f n) (hp : p < n) (h : ∀ x, x < n → x ∈ met f n p) : (met f n p).length = n := by
  have h1 := (pts_met hf hp).len
  have h2 := nodup_sub (l := List.range n) (m := met f n p) List.nodup_range (fun x hx => h x (List.mem_range.1 hx))
  rw [List.length_range] at h2
  omega
/-- If words lead from one point to all, they lead so from each. -/
theorem full_any {f : Fn} {n p q : Nat} (hf : Into f n) (h2 : Inv2 f n) (hp : p < n) (hq : q < n) (h : (met f n p).length = n) : (met f n q).length = n := by
  refine full_len hf hq fun x hx => ?_
  obtain ⟨v, hv, hvx⟩ := (mem_met hf hp).1 (full_mem hf hp h hx)
  obtain ⟨u, hu, huq⟩ := (mem_met hf hp).1 (full_mem hf hp h hq)
  refine (mem_met hf hq).2 ⟨u.reverse ++ v, Lets.app.2 ⟨fun c hc => hu c (List.mem_reverse.1 hc), hv⟩, ?_⟩
  rw [ledP_append, ← huq, ledP_back hf h2 u hu hp, hvx]
end Cov

/- Plain Lean: the tiles of an action's points in the growing graph. -/
set_option linter.unusedSimpArgs false
set_option linter.unusedVariables false
namespace Cov
open Hy (Word Eqv Lets Le IsNF letter Inv No Ext Leads wd tod Fine)

/-- The tiles of the first k points. -/
structure TilesAt (o : Hy.Ord) (f : Fn) (n : Nat) (G : List Hy.Node) (J : Nat → Nat) (k : Nat) : Prop where
  inv : Inv o G No
  lt : ∀ m, m < k → J m < G.length
  leads : ∀ m, m < k → Leads G 0 (W f n 0 m) (J m)
  word : ∀ m, m < k → wd G (J m) = W f n 0 m

theorem tiles_first (o : Hy.Ord) {f : Fn} {n : Nat} (hf : Into f n) (hn : 0 < n) : TilesAt o f n Hy.start (fun _ => 0) 1 := by
  have e := (met_first hf hn).2.1
  refine ⟨Hy.inv_start o, fun m hm => by simp [Hy.start], fun m hm => ?_, fun m hm => ?_⟩
  · obtain rfl : m = 0 := by omega
    rw [e]; exact rfl
  · obtain rfl : m = 0 := by omega
    rw [e]; rfl
theorem TilesAt.ext {o : Hy.Ord} {f : Fn} {n : Nat} {G G' : List Hy.Node} {J : Nat → Nat} {k b : Nat} (h : TilesAt o f n G J k) (I : Inv o G' No) (X : Ext G G' b) : TilesAt o f n G' J k :=
  ⟨I, fun m hm => Nat.lt_of_lt_of_le (h.lt m hm) X.len, fun m hm => Hy.leads_ext X (h.leads m hm), fun m hm => (X.hwd (h.lt m hm)).trans (h.word m hm)⟩
/-- One step from a tile. -/
theorem TilesAt.step {o : Hy.Ord} {f : Fn} {n : Nat} (F : Fine o) (hf : Into f n) {G : List Hy.Node} {J : Nat → Nat} {k x i : Nat} (h : TilesAt o f n G J k) (hn : 0 < n) (hn2 : n ≤ 200) (hk : k ≤ (met f n 0).length) (hx : x < k) (hi : i < 3) :
    ∃ G' z, Hy.step o 1000 G (J x) i = some (G', z) ∧ TilesAt o f n G' J k ∧ z < G'.length ∧ Leads G' 0 (W f n 0 x ++ letter i) z := by
  have hl := W_len hf hn x (by omega)
  have hm := (pts_met hf hn).len
  obtain ⟨G', z, h1, I', X, t, _⟩ := Hy.step_ok F (lim := 1000) 1000 No G (J x) i h.inv (h.lt x hx) hi (by rw [h.word x hx]; omega) (fun _ h => h.elim)
  refine ⟨G', z, Hy.step_of_L _ _ _ _ _ _ h1, h.ext I' X, Hy.tod_lt (I'.sym t).2, ?_⟩
  rw [Hy.leads_append]
  refine ⟨J x, Hy.leads_ext X (h.leads x hx), ?_⟩
  have : letter i = letter i ++ [] := by simp
  rw [this, Hy.leads_letter hi]
  exact ⟨z, t, rfl⟩
/-- The tile of the next point. -/
theorem TilesAt.next {o : Hy.Ord} {f : Fn} {n : Nat} (F : Fine o) (hf : Into f n) (hH : HoldsR o f n) {G : List Hy.Node} {J : Nat → Nat} {k z : Nat} (h : TilesAt o f n G J k) (hn : 0 < n) (hk : k < (met f n 0).length) (hz : z < G.length) (hl : Leads G 0 (W f n 0 k) z) :
    TilesAt o f n G (fun m => if m = k then z else J m) (k + 1) := by
  refine ⟨h.inv, fun m hm => ?_, fun m hm => ?_, fun m hm => ?_⟩
  all_goals
    by_cases e : m = k
    · subst e; rw [if_pos rfl]
      first
      | exact hz
      | exact hl
      | exact (Hy.nf_of_leads F h.inv (W_lets hf hn hk) hl).uniq (W_nf hf hH hn hk)
    · rw [if_neg e]
      first
      | exact h.lt m (by omega)
      | exact h.leads m (by omega)
      | exact h.word m (by omega)
/-- The step leads to the tile of a point exactly if both words are of the same motion. -/
theorem TilesAt.same {o : Hy.Ord} {f : Fn} {n : Nat} (F : Fine o) (hf : Into f n) {G : List Hy.Node} {J : Nat → Nat} {k x i y z : Nat} (h : TilesAt o f n G J k) (hn : 0 < n) (hk : k ≤ (met f n 0).length) (hx : x < k) (hy : y < k) (hi : i < 3) (hl : Leads G 0 (W f n 0 x ++ letter i) z) :
    z = J y ↔ Eqv o (W f n 0 x ++ letter i) (W f n 0 y) := by
  have I := h.inv
  constructor
  · intro e
    have h1 := Hy.leads_eqv I hl
    have h2 := Hy.leads_eqv I (h.leads y hy)
    rw [I.root, List.nil_append] at h1 h2
    rw [e] at h1
    exact h1.trans h2.symm
  · intro e
    exact (Hy.same_tile F e).2 G 0 z (J y) I I.pos (Lets.app.2 ⟨W_lets hf hn (by omega), Hy.lets_letter hi⟩) hl (h.leads y hy)

open Classical in
/-- The pairs of the first x points, and of j letters of the next. -/
noncomputable def pairs1 (o : Hy.Ord) (f : Fn) (n x i : Nat) : List ((Word × Nat) × (Word × Nat)) := if x ≤ f i x ∧ ¬ Eqv o (W f n 0 x ++ letter i) (W f n 0 (f i x)) then [((W f n 0 x, i), (W f n 0 (f i x), i))] else []
noncomputable def pairsR (o : Hy.Ord) (f : Fn) (n x j : Nat) : List ((Word × Nat) × (Word × Nat)) := (List.range j).flatMap (pairs1 o f n x)
noncomputable def pairsT (o : Hy.Ord) (f : Fn) (n x : Nat) : List ((Word × Nat) × (Word × Nat)) := (List.range x).flatMap fun x => pairsR o f n x 3
theorem pairsR_succ (o : Hy.Ord) (f : Fn) (n x j : Nat) : pairsR o f n x (j + 1) = pairsR o f n x j ++ pairs1 o f n x j := by
  unfold pairsR; rw [List.range_succ, List.flatMap_append]; simp
theorem pairsT_succ (o : Hy.Ord) (f : Fn) (n x : Nat) : pairsT o f n (x + 1) = pairsT o f n x ++ pairsR o f n x 3 := by
  unfold pairsT; rw [List.range_succ, List.flatMap_append]; simp
theorem pairs1_len (o : Hy.Ord) (f : Fn) (n x i : Nat) : (pairs1 o f n x i).length ≤ 1 := by unfold pairs1; split <;> simp
theorem pairsR_len (o : Hy.Ord) (f : Fn) (n x : Nat) : ∀ j, (pairsR o f n x j).length ≤ j
  | 0 => by simp [pairsR]
  | j + 1 => by rw [pairsR_succ, List.length_append]; have := pairsR_len o f n x j; have := pairs1_len o f n x j; omega
theorem pairsT_len (o : Hy.Ord) (f : Fn) (n : Nat) : ∀ x, (pairsT o f n x).length ≤ 3 * x
  | 0 => by simp [pairsT]
  | x + 1 => by rw [pairsT_succ, List.length_append]; have := pairsT_len o f n x; have := pairsR_len o f n x 3; omega
end Cov

/- Plain Lean: renumberings of actions; numbered actions. -/
set_option linter.unusedSimpArgs false
set_option linter.unusedVariables false
namespace Cov
open Hy (Word Eqv Lets Le IsNF letter)

/-- r is a renumbering of f to g. -/
structure Iso (f g : Fn) (n : Nat) (r : Nat → Nat) : Prop where
  lt : ∀ x, x < n → r x < n
  inj : ∀ x y, x < n → y < n → r x = r y → x = y
  com : ∀ i x, i < 3 → x < n → g i (r x) = r (f i x)

theorem Iso.surj {f g : Fn} {n : Nat} {r : Nat → Nat} (h : Iso f g n r) {y : Nat} (hy : y < n) : ∃ x, x < n ∧ r x = y := by
  apply Classical.byContradiction
  intro hn
  have hnd : ((List.range n).map r).Nodup := by
    rw [List.nodup_iff_pairwise_ne, List.pairwise_map]
    refine (List.nodup_iff_pairwise_ne.1 List.nodup_range).imp_of_mem (fun hx hy e h9 => e (h.inj _ _ (List.mem_range.1 hx) (List.mem_range.1 hy) h9))
  have := nodup_sub (l := y :: (List.range n).map r) (m := List.range n) (List.nodup_cons.2 ⟨fun hm => by
    obtain ⟨x, hx, e⟩ := List.mem_map.1 hm
    exact hn ⟨x, List.mem_range.1 hx, e⟩, hnd⟩) (fun z hz => by
    rcases List.mem_cons.1 hz with rfl | hz
    · exact List.mem_range.2 hy
    · obtain ⟨x, hx, rfl⟩ := List.mem_map.1 hz
      exact List.mem_range.2 (h.lt x (List.mem_range.1 hx)))
  simp at this
  omega
theorem Iso.mem {f g : Fn} {n : Nat} {r : Nat → Nat} (h : Iso f g n r) {L : List Nat} (hL : ∀ x ∈ L, x < n) {y : Nat} (hy : y < n) : r y ∈ L.map r ↔ y ∈ L := by
  constructor
  · intro hm
    obtain ⟨x, hx, e⟩ := List.mem_map.1 hm
    rw [← h.inj x y (hL x hx) hy e]; exact hx
  · exact fun hm => List.mem_map.2 ⟨y, hm, rfl⟩
theorem getD_map {r : Nat → Nat} {L : List Nat} {k : Nat} (hk : k < L.length) : (L.map r).getD k 0 = r (L.getD k 0) := by
  rw [List.getD, List.getD, List.getElem?_map, List.getElem?_eq_getElem hk]; rfl
theorem Iso.met1 {f g : Fn} {n : Nat} {r : Nat → Nat} (h : Iso f g n r) (hf : Into f n) {L : List Nat} (hP : Pts n L) {k i : Nat} (hk : k < L.length) (hi : i < 3) : Cov.met1 g (L.map r) k i = (Cov.met1 f L k i).map r := by
  unfold Cov.met1
  have hx := hP.get hk
  rw [getD_map hk, h.com i _ hi hx]
  by_cases hin : f i (L.getD k 0) ∈ L
  · rw [if_pos hin, if_pos ((h.mem hP.lt (hf i _ hi hx)).2 hin)]
  · rw [if_neg hin, if_neg (fun h9 => hin ((h.mem hP.lt (hf i _ hi hx)).1 h9))]; simp
theorem Iso.metR {f g : Fn} {n : Nat} {r : Nat → Nat} (h : Iso f g n r) (hf : Into f n) {L : List Nat} (hP : Pts n L) {k : Nat} (hk : k < L.length) : ∀ s, s ≤ 3 → Cov.metR g (L.map r) k s = (Cov.metR f L k s).map r
  | 0, _ => rfl
  | s + 1, hs => by
    rw [Cov.metR, Cov.metR, h.metR hf hP hk s (by omega)]
    obtain ⟨T, hT⟩ := metR_pre f L k s
    exact h.met1 hf (hP.metR hf hk s (by omega)) (by rw [hT, List.length_append]; omega) (by omega)
theorem Iso.metS {f g : Fn} {n : Nat} {r : Nat → Nat} (h : Iso f g n r) (hf : Into f n) {p : Nat} (hp : p < n) : ∀ k, metS g (r p) k = (metS f p k).map r
  | 0 => rfl
  | k + 1 => by
    rw [Cov.metS, Cov.metS, h.metS hf hp k, List.length_map]
    split
    · rename_i hk
      exact h.metR hf (pts_metS hf hp k) hk 3 (Nat.le_refl _)
    · rfl
theorem Iso.met {f g : Fn} {n : Nat} {r : Nat → Nat} (h : Iso f g n r) (hf : Into f n) {p : Nat} (hp : p < n) : Cov.met g n (r p) = (Cov.met f n p).map r := h.metS hf hp n
theorem idx_map {r : Nat → Nat} {n : Nat} (hi : ∀ x y, x < n → y < n → r x = r y → x = y) : ∀ {L : List Nat}, (∀ x ∈ L, x < n) → ∀ {y : Nat}, y < n → (L.map r).idxOf (r y) = L.idxOf y
  | [], _, y, _ => rfl
  | a :: L, hL, y, hy => by
    have ha := hL a List.mem_cons_self
    rw [List.map_cons, List.idxOf_cons, List.idxOf_cons, idx_map hi (fun x hx => hL x (List.mem_cons_of_mem _ hx)) hy]
    by_cases e : a = y
    · subst e; simp
    · have e2 : ¬ r a = r y := fun h => e (hi a y ha hy h)
      rw [show (r a == r y) = false from by rw [beq_eq_false_iff_ne]; exact e2, show (a == y) = false from by rw [beq_eq_false_iff_ne]; exact e]
theorem Iso.num {f g : Fn} {n : Nat} {r : Nat → Nat} (h : Iso f g n r) (hf : Into f n) {p : Nat} (hp : p < n) {i k : Nat} (hi : i < 3) (hk : k < (Cov.met f n p).length) : num g n (r p) i k = num f n p i k := by
  have hP := pts_met hf hp
  unfold Cov.num place
  rw [h.met hf hp, getD_map hk, h.com i _ hi (hP.get hk)]
  exact idx_map h.inj hP.lt (hf i _ hi (hP.get hk))
theorem Iso.led {f g : Fn} {n : Nat} {r : Nat → Nat} (h : Iso f g n r) (hf : Into f n) : ∀ (w : Word) {x : Nat}, Lets w → x < n → ledP g (r x) w = r (ledP f x w)
  | [], _, _, _ => rfl
  | c :: w, x, hl, hx => by
    have hc := hl c List.mem_cons_self
    show ledP g (g c.toNat (r x)) w = r (ledP f (f c.toNat x) w)
    rw [h.com _ _ hc hx]
    exact h.led hf w (fun d hd => hl d (List.mem_cons_of_mem _ hd)) (hf _ _ hc hx)
theorem Iso.into {f g : Fn} {n : Nat} {r : Nat → Nat} (h : Iso f g n r) (hf : Into f n) : Into g n := fun i y hi hy => by
  obtain ⟨x, hx, rfl⟩ := h.surj hy
  rw [h.com i x hi hx]
  exact h.lt _ (hf i x hi hx)
theorem Iso.rounds {f g : Fn} {n : Nat} {r : Nat → Nat} (h : Iso f g n r) (hf : Into f n) {i j : Nat} (hi : i < 3) (hj : j < 3) : ∀ (m : Nat) {x : Nat}, x < n → rounds g i j m (r x) = r (rounds f i j m x)
  | 0, _, _ => rfl
  | m + 1, x, hx => by
    rw [Cov.rounds, Cov.rounds, h.com i x hi hx, h.com j _ hj (hf i x hi hx)]
    exact h.rounds hf hi hj m (hf j _ hj (hf i x hi hx))
theorem Iso.holds {o : Hy.Ord} {f g : Fn} {n : Nat} {r : Nat → Nat} (h : Iso f g n r) (hf : Into f n) (hH : HoldsR o f n) : HoldsR o g n := fun y hy i hi => by
  obtain ⟨x, hx, rfl⟩ := h.surj hy
  obtain ⟨h1, h2⟩ := hH x hx i hi
  refine ⟨by rw [h.com i x hi hx, h.com i _ hi (hf i x hi hx), h1], fun j hij hj => ?_⟩
  rw [h.rounds hf hi hj _ hx, h2 j hij hj]
theorem Iso.full {f g : Fn} {n : Nat} {r : Nat → Nat} (h : Iso f g n r) (hf : Into f n) {p : Nat} (hp : p < n) (hl : (Cov.met f n p).length = n) : (Cov.met g n (r p)).length = n := by
  rw [h.met hf hp, List.length_map, hl]

theorem place_lt {f : Fn} {n p : Nat} (hf : Into f n) (hp : p < n) {x : Nat} (hx : x ∈ met f n p) : place f n p x < (met f n p).length := List.idxOf_lt_length_of_mem hx
theorem at_place {f : Fn} {n p : Nat} {x : Nat} (hx : x ∈ met f n p) : (met f n p).getD (place f n p x) 0 = x := by
  have h := List.idxOf_lt_length_of_mem hx
  unfold place
  rw [List.getD, List.getElem?_eq_getElem h]
  exact List.getElem_idxOf h
theorem place_at {f : Fn} {n p : Nat} (hf : Into f n) (hp : p < n) {k : Nat} (hk : k < (met f n p).length) : place f n p ((met f n p).getD k 0) = k := by
  have hin : (met f n p).getD k 0 ∈ met f n p := by rw [List.getD, List.getElem?_eq_getElem hk]; exact List.getElem_mem hk
  exact getD_inj (pts_met hf hp).nd (place_lt hf hp hin) hk (at_place hin)
theorem place_self {f : Fn} {n p : Nat} (hf : Into f n) (hp : p < n) : place f n p p = 0 := by
  obtain ⟨h1, _, h2⟩ := met_first hf hp
  have := place_at hf hp h2
  rwa [h1] at this
/-- The numbering is a renumbering. -/
theorem iso_num {f : Fn} {n p : Nat} (hf : Into f n) (hp : p < n) (hl : (met f n p).length = n) : Iso f (num f n p) n (place f n p) where
  lt := fun x hx => by have := place_lt hf hp (full_mem hf hp hl hx); omega
  inj := fun x y hx hy e => by rw [← at_place (full_mem hf hp hl hx), ← at_place (full_mem hf hp hl hy), e]
  com := fun i x hi hx => by
    unfold num
    rw [at_place (full_mem hf hp hl hx)]
theorem num_num {f : Fn} {n p : Nat} (hf : Into f n) (hp : p < n) (hl : (met f n p).length = n) {i k : Nat} (hi : i < 3) (hk : k < n) : num (num f n p) n 0 i k = num f n p i k := by
  have h := iso_num hf hp hl
  have := h.num hf hp hi (show k < (met f n p).length by omega)
  rwa [place_self hf hp] at this
theorem num_lt {f : Fn} {n p : Nat} (hf : Into f n) (hp : p < n) (hl : (met f n p).length = n) : Into (num f n p) n := (iso_num hf hp hl).into hf
/-- The same numbered actions: a renumbering from point to point. -/
theorem iso_of_num {f g : Fn} {n p q : Nat} (hf : Into f n) (hg : Into g n) (hp : p < n) (hq : q < n) (hl : (met f n p).length = n) (hm : (met g n q).length = n) (e : ∀ i k, i < 3 → k < n → num f n p i k = num g n q i k) :
    Iso f g n (fun x => (met g n q).getD (place f n p x) 0) where
  lt := fun x hx => (pts_met hg hq).get (by have := place_lt hf hp (full_mem hf hp hl hx); omega)
  inj := fun x y hx hy e => by
    have h1 := place_lt hf hp (full_mem hf hp hl hx)
    have h2 := place_lt hf hp (full_mem hf hp hl hy)
    have := getD_inj (pts_met hg hq).nd (by omega) (by omega) e
    exact (iso_num hf hp hl).inj x y hx hy this
  com := fun i x hi hx => by
    have hk := place_lt hf hp (full_mem hf hp hl hx)
    rw [hl] at hk
    have h1 : num f n p i (place f n p x) = place f n p (f i x) := (iso_num hf hp hl).com i x hi hx
    have h2 := e i _ hi hk
    rw [h1] at h2
    rw [h2]
    unfold num
    exact (at_place (full_mem hg hq hm (hg i _ hi ((pts_met hg hq).get (by omega))))).symm
theorem iso_num_eq {f g : Fn} {n : Nat} {r : Nat → Nat} (h : Iso f g n r) (hf : Into f n) {p : Nat} (hp : p < n) (hl : (met f n p).length = n) : ∀ i k, i < 3 → k < n → num f n p i k = num g n (r p) i k := fun i k hi hk => (h.num hf hp hi (by omega)).symm
/-- From one point to the other. -/
theorem iso_of_num_at {f g : Fn} {n p q : Nat} (hf : Into f n) (hg : Into g n) (hp : p < n) (hq : q < n) : (met g n q).getD (place f n p p) 0 = q := by
  rw [place_self hf hp]; exact (met_first hg hq).1
end Cov
