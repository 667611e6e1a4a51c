/- Plain Lean: the points in the order of their words, with the place from which each is found and the letter. -/
import Derived.Test.YtfdklmpkienfhaaGreatAct
set_option linter.unusedSimpArgs false
set_option linter.unusedVariables false
namespace Cov

/-- A point that is found: the point, the place from which it is found, the letter. -/
abbrev Fnd := Nat × Int × Int
def fst (L : List Fnd) : List Nat := L.map (·.1)
def fnd1 (f : Fn) (L : List Fnd) (k i : Nat) : List Fnd := if f i (L.getD k (0, 0, 0)).1 ∈ fst L then L else L ++ [(f i (L.getD k (0, 0, 0)).1, (k : Int), (i : Int))]
def fndR (f : Fn) (L : List Fnd) (k : Nat) : Nat → List Fnd
  | 0 => L
  | s + 1 => fnd1 f (fndR f L k s) k s
def fndS (f : Fn) (p : Nat) : Nat → List Fnd
  | 0 => [(p, -1, -1)]
  | k + 1 => if k < (fndS f p k).length then fndR f (fndS f p k) k 3 else fndS f p k
/-- All of them. -/
def fnd (f : Fn) (n p : Nat) : List Fnd := fndS f p n

theorem fst_getD (L : List Fnd) (k : Nat) : (fst L).getD k 0 = (L.getD k (0, 0, 0)).1 := by
  unfold fst
  simp only [List.getD, List.getElem?_map]
  cases L[k]? <;> rfl
theorem fst_len (L : List Fnd) : (fst L).length = L.length := by simp [fst]
theorem fst_append (L M : List Fnd) : fst (L ++ M) = fst L ++ fst M := by simp [fst]
theorem fnd1_fst (f : Fn) (L : List Fnd) (k i : Nat) : fst (fnd1 f L k i) = met1 f (fst L) k i := by
  unfold fnd1 met1
  rw [fst_getD]
  split
  · rfl
  · rw [fst_append]; rfl
theorem fndR_fst (f : Fn) (L : List Fnd) (k : Nat) : ∀ s, fst (fndR f L k s) = metR f (fst L) k s
  | 0 => rfl
  | s + 1 => by rw [fndR, metR, fnd1_fst, fndR_fst f L k s]
theorem fndS_fst (f : Fn) (p : Nat) : ∀ k, fst (fndS f p k) = metS f p k
  | 0 => rfl
  | k + 1 => by
    rw [fndS, metS, ← fndS_fst f p k, fst_len]
    split
    · rw [fndR_fst]
    · rfl
theorem fnd_fst (f : Fn) (n p : Nat) : fst (fnd f n p) = met f n p := fndS_fst f p n
theorem fnd1_pre (f : Fn) (L : List Fnd) (k i : Nat) : ∃ T, fnd1 f L k i = L ++ T := by
  unfold fnd1
  split
  · exact ⟨[], by simp⟩
  · exact ⟨_, rfl⟩
theorem fndR_pre (f : Fn) (L : List Fnd) (k : Nat) : ∀ s, ∃ T, fndR f L k s = L ++ T
  | 0 => ⟨[], by simp [fndR]⟩
  | s + 1 => by
    obtain ⟨T, h⟩ := fndR_pre f L k s
    obtain ⟨T', h'⟩ := fnd1_pre f (fndR f L k s) k s
    exact ⟨T ++ T', by rw [fndR, h', h, List.append_assoc]⟩
theorem fndS_pre (f : Fn) (p : Nat) {k : Nat} : ∀ {m : Nat}, k ≤ m → ∃ T, fndS f p m = fndS f p k ++ T
  | 0, h => by obtain rfl : k = 0 := by omega
               exact ⟨[], by simp⟩
  | m + 1, h => by
    rcases Nat.lt_or_ge k (m + 1) with h1 | h1
    · obtain ⟨T, hT⟩ := fndS_pre f p (k := k) (m := m) (by omega)
      rw [fndS]
      split
      · obtain ⟨T', hT'⟩ := fndR_pre f (fndS f p m) m 3
        exact ⟨T ++ T', by rw [hT', hT, List.append_assoc]⟩
      · exact ⟨T, hT⟩
    · obtain rfl : k = m + 1 := by omega
      exact ⟨[], by simp⟩
theorem fndS_len (f : Fn) (p k : Nat) : (fndS f p k).length = (metS f p k).length := by rw [← fndS_fst, fst_len]
theorem fndS_stop {f : Fn} {p k : Nat} (h : (fndS f p k).length ≤ k) : ∀ m, k ≤ m → fndS f p m = fndS f p k
  | 0, hm => by obtain rfl : k = 0 := by omega
                rfl
  | m + 1, hm => by
    rcases Nat.lt_or_ge k (m + 1) with h1 | h1
    · have ih := fndS_stop h m (by omega)
      rw [fndS, ih, if_neg (by omega)]
    · obtain rfl : k = m + 1 := by omega
      rfl
/-- Where the list is at its end, it is the whole. -/
theorem fnd_end {f : Fn} {n p k : Nat} (hf : Into f n) (hp : p < n) (h : (fndS f p k).length = k) : fndS f p k = fnd f n p := by
  have := (pts_metS hf hp k).len
  rw [fndS_len] at h
  exact (fndS_stop (by rw [fndS_len]; omega) n (by omega)).symm
/-- What is known early is not changed. -/
theorem fnd_at {f : Fn} {n p k : Nat} (hf : Into f n) (hp : p < n) (hk : k < (fndS f p k).length) : (fnd f n p)[k]? = (fndS f p k)[k]? := by
  have hl := (pts_metS hf hp k).len
  rw [← fndS_len] at hl
  obtain ⟨T, hT⟩ := fndS_pre f p (k := k) (m := n) (by omega)
  unfold fnd
  rw [hT, List.getElem?_append_left hk]
theorem fnd1_len (f : Fn) (L : List Fnd) (k i : Nat) : L.length ≤ (fnd1 f L k i).length ∧ (fnd1 f L k i).length ≤ L.length + 1 := by
  unfold fnd1
  split
  · omega
  · simp
theorem fnd_len {f : Fn} {n p : Nat} (hf : Into f n) (hp : p < n) : (fnd f n p).length ≤ n := by
  have := (pts_met hf hp).len
  rw [← fnd_fst, fst_len] at this
  exact this
/-- The point to which a word leads. -/
def ledP (f : Fn) (x : Nat) (l : List UInt8) : Nat := l.foldl (fun x c => f c.toNat x) x
theorem ledP_lt {f : Fn} {n : Nat} (h : Into f n) : ∀ (l : List UInt8) {x : Nat}, (∀ c ∈ l, c.toNat < 3) → x < n → ledP f x l < n
  | [], _, _, hx => hx
  | c :: r, x, hl, hx => ledP_lt h r (fun d hd => hl d (List.mem_cons_of_mem _ hd)) (h c.toNat x (hl c List.mem_cons_self) hx)
theorem ledP_append (f : Fn) (x : Nat) (l m : List UInt8) : ledP f x (l ++ m) = ledP f (ledP f x l) m := List.foldl_append
theorem ledP_snoc (f : Fn) (x : Nat) (l : List UInt8) (k : Nat) (hk : k < l.length) : ledP f x (l.take (k + 1)) = f l[k].toNat (ledP f x (l.take k)) := by
  rw [List.take_succ_eq_append_getElem hk, ledP_append]; rfl
end Cov
