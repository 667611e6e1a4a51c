/- Plain Lean: polynomials with numbers of 64 bits, as series: the fraction of the numbers of tiles. -/
import Derived.RowKit
set_option linter.unusedSimpArgs false
set_option linter.unusedVariables false
open Go.RowKit
namespace HySer
abbrev R := BitVec 64
def tl (f : Nat → R) : Nat → R := fun n => f (n + 1)
/-- The product of two series. -/
def conv : (Nat → R) → (Nat → R) → Nat → R
  | f, g, 0 => f 0 * g 0
  | f, g, n + 1 => f 0 * g (n + 1) + conv (tl f) g n
def add (f g : Nat → R) : Nat → R := fun n => f n + g n
def smul (a : R) (f : Nat → R) : Nat → R := fun n => a * f n
def one : Nat → R := fun n => if n = 0 then 1 else 0

theorem conv_succ (f g : Nat → R) (n : Nat) : conv f g (n + 1) = f 0 * g (n + 1) + conv (tl f) g n := rfl
theorem conv_zero (f g : Nat → R) : conv f g 0 = f 0 * g 0 := rfl

theorem conv_add (f f' g : Nat → R) (n : Nat) : conv (add f f') g n = conv f g n + conv f' g n := by
  induction n generalizing f f' with
  | zero => simp only [conv_zero, add]; grind
  | succ n ih =>
    have e : tl (add f f') = add (tl f) (tl f') := rfl
    simp only [conv_succ, e, ih]
    simp only [add]; grind

theorem conv_smul (a : R) (f g : Nat → R) (n : Nat) : conv (smul a f) g n = a * conv f g n := by
  induction n generalizing f with
  | zero => simp only [conv_zero, smul]; grind
  | succ n ih =>
    have e : tl (smul a f) = smul a (tl f) := rfl
    simp only [conv_succ, e, ih]
    simp only [smul]; grind

theorem tl_conv (f g : Nat → R) : tl (conv f g) = add (smul (f 0) (tl g)) (conv (tl f) g) := rfl

theorem conv_assoc (f g h : Nat → R) (n : Nat) : conv (conv f g) h n = conv f (conv g h) n := by
  induction n generalizing f with
  | zero => simp only [conv_zero]; grind
  | succ n ih =>
    rw [conv_succ, tl_conv, conv_add, conv_smul, ih, conv_succ f, conv_succ g h]
    simp only [conv_zero]; grind

theorem conv_back (f g : Nat → R) (n : Nat) : conv f g (n + 1) = conv f (tl g) n + f (n + 1) * g 0 := by
  induction n generalizing f with
  | zero => simp only [conv_succ, conv_zero, tl]
  | succ n ih =>
    rw [conv_succ, ih (tl f), conv_succ f (tl g) n]
    simp only [tl]; grind

theorem conv_comm (f g : Nat → R) (n : Nat) : conv f g n = conv g f n := by
  induction n generalizing f with
  | zero => simp only [conv_zero]; grind
  | succ n ih =>
    rw [conv_succ, ih (tl f), conv_back g f]; grind

theorem conv_assoc' (f g h : Nat → R) : conv (conv f g) h = conv f (conv g h) := funext (conv_assoc f g h)
theorem conv_comm' (f g : Nat → R) : conv f g = conv g f := funext (conv_comm f g)

theorem conv_zeroF (g : Nat → R) (n : Nat) : conv (fun _ => 0) g n = 0 := by
  induction n with
  | zero => simp only [conv_zero]; grind
  | succ n ih =>
    have e : tl (fun _ => (0 : R)) = fun _ => 0 := rfl
    rw [conv_succ, e, ih]; grind

theorem one_conv (g : Nat → R) (n : Nat) : conv one g n = g n := by
  cases n with
  | zero => simp only [conv_zero, one]; simp
  | succ n =>
    have e : tl one = fun _ => 0 := by funext k; simp [tl, one]
    rw [conv_succ, e, conv_zeroF]; simp [one]

/-- Only the coefficients up to n matter. -/
theorem conv_congr {f f' g g' : Nat → R} {n : Nat} (h1 : ∀ k, k ≤ n → f k = f' k) (h2 : ∀ k, k ≤ n → g k = g' k) : conv f g n = conv f' g' n := by
  induction n generalizing f f' with
  | zero => simp only [conv_zero, h1 0 (Nat.le_refl _), h2 0 (Nat.le_refl _)]
  | succ n ih =>
    rw [conv_succ, conv_succ, h1 0 (Nat.zero_le _), h2 _ (Nat.le_refl _), ih (f := tl f) (f' := tl f') (fun k hk => h1 _ (by omega)) (fun k hk => h2 k (by omega))]

/-- What has the constant term 1 can be taken away, up to n. -/
theorem cancel_le {f g h : Nat → R} (h0 : f 0 = 1) {n : Nat} (hc : ∀ k, k ≤ n → conv f g k = conv f h k) : ∀ k, k ≤ n → g k = h k := by
  intro k
  induction k using Nat.strongRecOn with
  | _ k ih =>
    intro hk
    have hcc := hc k hk
    cases k with
    | zero => simp only [conv_zero, h0] at hcc; simpa using hcc
    | succ k =>
      rw [conv_succ, conv_succ, h0, conv_congr (f := tl f) (f' := tl f) (g := g) (g' := h) (fun _ _ => rfl) (fun j hj => ih j (by omega) (by omega))] at hcc
      grind

theorem cancel {f g h : Nat → R} (h0 : f 0 = 1) (hc : conv f g = conv f h) : g = h := by
  funext n
  exact cancel_le h0 (n := n) (fun k _ => by rw [hc]) n (Nat.le_refl _)

theorem ofInt_wrap (x : Int) : BitVec.ofInt 64 (wrap64 x) = BitVec.ofInt 64 x := by
  apply BitVec.eq_of_toNat_eq
  simp only [BitVec.toNat_ofInt]
  unfold wrap64
  congr 1
  omega

/-- The coefficients of a polynomial. -/
def cf (l : List Int) : Nat → R := fun i => BitVec.ofInt 64 (l.getD i 0)

theorem cf_out {l : List Int} {i : Nat} (h : l.length ≤ i) : cf l i = 0 := by
  unfold cf
  simp [List.getD, List.getElem?_eq_none h]

/-- k times b is added to a polynomial from the place off on: the first j numbers. -/
def addAt (out : List Int) (off : Nat) (k : Int) (b : List Int) : Nat → List Int
  | 0 => out
  | j + 1 => (addAt out off k b j).modify (off + j) (fun a => wrap64 (a + wrap64 (k * b.getD j 0)))
def subAt (out : List Int) (off : Nat) (k : Int) (b : List Int) : Nat → List Int
  | 0 => out
  | j + 1 => (subAt out off k b j).modify (off + j) (fun a => wrap64 (a - wrap64 (k * b.getD j 0)))

theorem length_addAt {out : List Int} {off : Nat} {k : Int} {b : List Int} : ∀ {j : Nat}, (addAt out off k b j).length = out.length
  | 0 => rfl
  | j + 1 => by rw [addAt, List.length_modify, length_addAt]
theorem length_subAt {out : List Int} {off : Nat} {k : Int} {b : List Int} : ∀ {j : Nat}, (subAt out off k b j).length = out.length
  | 0 => rfl
  | j + 1 => by rw [subAt, List.length_modify, length_subAt]

theorem getD_modify (l : List Int) (i : Nat) (f : Int → Int) (n : Nat) (hi : i < l.length) : (l.modify i f).getD n 0 = if n = i then f (l.getD n 0) else l.getD n 0 := by
  simp only [List.getD, List.getElem?_modify]
  by_cases h : n = i
  · subst h; simp [List.getElem?_eq_getElem hi]
  · have h2 : ¬ i = n := fun e => h e.symm
    rw [if_neg h]
    cases l[n]? <;> simp [h2]

theorem cf_addAt {out : List Int} {off : Nat} {k : Int} {b : List Int} : ∀ {j : Nat}, off + j ≤ out.length → ∀ n, cf (addAt out off k b j) n = cf out n + (if off ≤ n ∧ n < off + j then BitVec.ofInt 64 k * cf b (n - off) else 0)
  | 0, _, n => by
    rw [if_neg (by omega)]; simp [addAt]
  | j + 1, h, n => by
    have ih := cf_addAt (out := out) (off := off) (k := k) (b := b) (j := j) (by omega) n
    have hl : off + j < (addAt out off k b j).length := by rw [length_addAt]; omega
    unfold cf at ih ⊢
    rw [addAt, getD_modify _ _ _ _ hl]
    by_cases h1 : n = off + j
    · subst h1
      rw [if_neg (by omega)] at ih
      rw [if_pos rfl, if_pos (by omega), ofInt_wrap, BitVec.ofInt_add, ih, ofInt_wrap, BitVec.ofInt_mul, Nat.add_sub_cancel_left]
      simp
    · rw [if_neg h1, ih]
      by_cases h2 : off ≤ n ∧ n < off + j
      · rw [if_pos h2, if_pos (by omega)]
      · rw [if_neg h2, if_neg (by omega)]

theorem cf_subAt {out : List Int} {off : Nat} {k : Int} {b : List Int} : ∀ {j : Nat}, off + j ≤ out.length → ∀ n, cf (subAt out off k b j) n = cf out n - (if off ≤ n ∧ n < off + j then BitVec.ofInt 64 k * cf b (n - off) else 0)
  | 0, _, n => by
    rw [if_neg (by omega)]; simp [subAt]
  | j + 1, h, n => by
    have ih := cf_subAt (out := out) (off := off) (k := k) (b := b) (j := j) (by omega) n
    have hl : off + j < (subAt out off k b j).length := by rw [length_subAt]; omega
    unfold cf at ih ⊢
    rw [subAt, getD_modify _ _ _ _ hl]
    by_cases h1 : n = off + j
    · subst h1
      rw [if_neg (by omega)] at ih
      rw [if_pos rfl, if_pos (by omega), ofInt_wrap, Int.sub_eq_add_neg, BitVec.ofInt_add, ih, BitVec.ofInt_neg, ofInt_wrap, BitVec.ofInt_mul, Nat.add_sub_cancel_left]
      grind
    · rw [if_neg h1, ih]
      by_cases h2 : off ≤ n ∧ n < off + j
      · rw [if_pos h2, if_pos (by omega)]
      · rw [if_neg h2, if_neg (by omega)]

/-- x t^k. -/
def mono (x : R) (k : Nat) : Nat → R := fun n => if n = k then x else 0

theorem conv_mono (x : R) (k : Nat) (g : Nat → R) (n : Nat) : conv (mono x k) g n = if k ≤ n then x * g (n - k) else 0 := by
  induction n generalizing k with
  | zero =>
    rw [conv_zero]
    unfold mono
    by_cases h : k = 0
    · subst h; simp
    · rw [if_neg (fun e => h e.symm), if_neg (by omega)]; simp
  | succ n ih =>
    rw [conv_succ]
    cases k with
    | zero =>
      have e : tl (mono x 0) = fun _ => 0 := by funext m; simp [tl, mono]
      rw [e, conv_zeroF]; simp [mono]
    | succ k =>
      have e : tl (mono x (k + 1)) = mono x k := by funext m; simp [tl, mono]
      rw [e, ih]
      simp [mono]

theorem cf_take_succ (a : List Int) (i : Nat) : cf (a.take (i + 1)) = add (cf (a.take i)) (mono (cf a i) i) := by
  funext n
  unfold add mono cf
  by_cases h : n < i + 1
  · by_cases h1 : n = i
    · subst h1; simp [List.getD, List.getElem?_take]
    · have : n < i := by omega
      simp [List.getD, List.getElem?_take, h, this, h1]
  · have : ¬ n < i := by omega
    have h1 : ¬ n = i := by omega
    simp [List.getD, List.getElem?_take, h, this, h1]

/-- The product: the first i numbers of a are done. -/
def timesGo (a b : List Int) : Nat → List Int
  | 0 => List.replicate (a.length + b.length - 1) 0
  | i + 1 => addAt (timesGo a b i) i (a.getD i 0) b b.length
def ptimes (a b : List Int) : List Int := timesGo a b a.length

theorem length_timesGo {a b : List Int} : ∀ {i : Nat}, (timesGo a b i).length = a.length + b.length - 1
  | 0 => by simp [timesGo]
  | i + 1 => by rw [timesGo, length_addAt, length_timesGo]
theorem length_ptimes (a b : List Int) : (ptimes a b).length = a.length + b.length - 1 := length_timesGo

theorem cf_zeros (n : Nat) : cf (List.replicate n 0) = fun _ => 0 := by
  funext i
  unfold cf
  simp only [List.getD, List.getElem?_replicate]
  split <;> simp

theorem cf_nil : cf [] = fun _ => 0 := by funext i; simp [cf]

theorem cf_timesGo {a b : List Int} (hb : b ≠ []) : ∀ {i : Nat}, i ≤ a.length → cf (timesGo a b i) = conv (cf (a.take i)) (cf b)
  | 0, _ => by
    funext n
    rw [timesGo, cf_zeros, List.take_zero, cf_nil, conv_zeroF]
  | i + 1, h => by
    have hbl : 0 < b.length := List.length_pos_iff.2 hb
    funext n
    have ih := congrFun (cf_timesGo (a := a) hb (i := i) (by omega)) n
    rw [timesGo, cf_addAt (by rw [length_timesGo]; omega), ih, cf_take_succ, conv_add, conv_mono]
    congr 1
    by_cases h1 : i ≤ n
    · rw [if_pos h1]
      by_cases h2 : n < i + b.length
      · rw [if_pos ⟨h1, h2⟩]; rfl
      · rw [if_neg (by omega), cf_out (l := b) (by omega)]; simp
    · rw [if_neg h1, if_neg (by omega)]

theorem cf_times {a b : List Int} (hb : b ≠ []) : cf (ptimes a b) = conv (cf a) (cf b) := by
  have := cf_timesGo (a := a) hb (Nat.le_refl _)
  rwa [List.take_length] at this

/-- The sum of two polynomials, the second one some times. -/
def pplus (a b : List Int) (k : Int) : List Int := addAt (a ++ List.replicate (max a.length b.length - a.length) 0) 0 k b b.length

theorem length_pplus (a b : List Int) (k : Int) : (pplus a b k).length = max a.length b.length := by
  rw [pplus, length_addAt]; simp; omega

theorem cf_pad (a : List Int) (n : Nat) : cf (a ++ List.replicate n 0) = cf a := by
  funext i
  unfold cf
  by_cases h : i < a.length
  · simp [List.getD, List.getElem?_append, h]
  · simp only [List.getD, List.getElem?_append, if_neg h, List.getElem?_replicate, List.getElem?_eq_none (Nat.le_of_not_lt h)]
    split <;> simp

theorem cf_plus (a b : List Int) (k : Int) : cf (pplus a b k) = add (cf a) (smul (BitVec.ofInt 64 k) (cf b)) := by
  funext n
  rw [pplus, cf_addAt (by simp; omega), cf_pad]
  unfold add smul
  by_cases h : n < b.length
  · rw [if_pos (by omega), Nat.sub_zero]
  · rw [if_neg (by omega), cf_out (l := b) (by omega)]; simp

/-- The division: k numbers of the quotient are left. -/
def overGo (b : List Int) : Nat → List Int → List Int → List Int × List Int
  | 0, rest, out => (rest, out)
  | k + 1, rest, out => overGo b k (subAt rest k (rest.getD (k + b.length - 1) 0) b b.length) (out.set k (rest.getD (k + b.length - 1) 0))
def pover (a b : List Int) : Option (List Int) :=
  if a.length < b.length then none
  else if (overGo b (a.length - b.length + 1) a (List.replicate (a.length - b.length + 1) 0)).1.all (· == 0) then some (overGo b (a.length - b.length + 1) a (List.replicate (a.length - b.length + 1) 0)).2 else none

theorem cf_set {out : List Int} {k : Nat} {c : Int} (hk : k < out.length) (h0 : cf out k = 0) : cf (out.set k c) = add (cf out) (mono (BitVec.ofInt 64 c) k) := by
  funext n
  unfold add mono
  by_cases h : n = k
  · subst h
    rw [h0]
    unfold cf
    simp [List.getD, hk]
  · have h2 : ¬ k = n := fun e => h e.symm
    unfold cf
    simp [List.getD, h, h2]

theorem overGo_inv {b : List Int} (hb : b ≠ []) {f : Nat → R} : ∀ {k : Nat} {rest out : List Int}, k ≤ out.length → rest.length + 1 = out.length + b.length → (∀ j, j < k → cf out j = 0) → f = add (cf rest) (conv (cf out) (cf b)) →
    f = add (cf (overGo b k rest out).1) (conv (cf (overGo b k rest out).2) (cf b)) ∧ (overGo b k rest out).2.length = out.length
  | 0, _, _, _, _, _, h => ⟨h, rfl⟩
  | k + 1, rest, out, h1, h2, h3, h4 => by
    rw [overGo]
    have := overGo_inv hb (f := f) (k := k) (rest := subAt rest k (rest.getD (k + b.length - 1) 0) b b.length) (out := out.set k (rest.getD (k + b.length - 1) 0)) (by simp; omega) (by rw [length_subAt]; simp; omega) (fun j hj => by
      rw [cf_set (by omega) (h3 k (by omega))]
      unfold add mono
      rw [h3 j (by omega), if_neg (by omega)]; simp) ?_
    · simpa using this
    · funext n
      rw [h4]
      have hbl : 0 < b.length := List.length_pos_iff.2 hb
      unfold add
      rw [cf_subAt (by omega), cf_set (by omega) (h3 k (by omega)), conv_add, conv_mono]
      by_cases h5 : k ≤ n
      · rw [if_pos h5]
        by_cases h6 : n < k + b.length
        · rw [if_pos ⟨h5, h6⟩]; grind
        · rw [if_neg (by omega), cf_out (l := b) (by omega)]; grind
      · rw [if_neg h5, if_neg (by omega)]; grind

theorem cf_all {l : List Int} (h : l.all (· == 0) = true) : cf l = fun _ => 0 := by
  funext i
  unfold cf
  simp only [List.getD]
  cases hl : l[i]? with
  | none => simp
  | some x =>
    have := List.all_eq_true.1 h x (List.mem_of_getElem? hl)
    simp at this
    simp [this]

/-- What is divided is the product. -/
theorem over_mul {a b q : List Int} (hb : b ≠ []) (h : pover a b = some q) : cf a = conv (cf q) (cf b) ∧ q.length = a.length - b.length + 1 ∧ b.length ≤ a.length := by
  unfold pover at h
  split at h
  · cases h
  · rename_i hl
    split at h
    · rename_i hz
      cases h
      have hbl : 0 < b.length := List.length_pos_iff.2 hb
      obtain ⟨e1, e2⟩ := overGo_inv hb (f := cf a) (k := a.length - b.length + 1) (rest := a) (out := List.replicate (a.length - b.length + 1) 0) (by simp) (by simp; omega) (fun j _ => by rw [cf_zeros]) (by
        funext n; unfold add; rw [cf_zeros, conv_zeroF]; simp)
      refine ⟨?_, by rw [e2]; simp, by omega⟩
      rw [e1, cf_all hz]
      funext n; simp only [add]; simp
    · cases h

/-- A number of 64 bits. -/
def Ok64 (x : Int) : Prop := -9223372036854775808 ≤ x ∧ x ≤ 9223372036854775807
theorem wrap64_ok (x : Int) : Ok64 (wrap64 x) := by unfold Ok64 wrap64; omega
theorem ok_ofInt {x y : Int} (hx : Ok64 x) (hy : Ok64 y) (h : BitVec.ofInt 64 x = BitVec.ofInt 64 y) : x = y := by
  have := congrArg BitVec.toNat h
  simp only [BitVec.toNat_ofInt] at this
  unfold Ok64 at hx hy
  omega

def AllOk (l : List Int) : Prop := ∀ x ∈ l, Ok64 x
theorem AllOk.getD {l : List Int} (h : AllOk l) (i : Nat) : Ok64 (l.getD i 0) := by
  simp only [List.getD]
  cases hl : l[i]? with
  | none => simp [Ok64]
  | some x => exact h x (List.mem_of_getElem? hl)
theorem AllOk.modify {l : List Int} (h : AllOk l) (i : Nat) (f : Int → Int) (hf : ∀ x, Ok64 (f x)) : AllOk (l.modify i f) := by
  intro x hx
  obtain ⟨j, hj, rfl⟩ := List.getElem_of_mem hx
  rw [List.getElem_modify]
  split
  · exact hf _
  · exact h _ (List.getElem_mem _)
theorem AllOk.addAt {out b : List Int} {off : Nat} {k : Int} (h : AllOk out) : ∀ {j : Nat}, AllOk (addAt out off k b j)
  | 0 => h
  | j + 1 => AllOk.modify (AllOk.addAt h) _ _ fun _ => wrap64_ok _
theorem AllOk.subAt {out b : List Int} {off : Nat} {k : Int} (h : AllOk out) : ∀ {j : Nat}, AllOk (subAt out off k b j)
  | 0 => h
  | j + 1 => AllOk.modify (AllOk.subAt h) _ _ fun _ => wrap64_ok _
theorem AllOk.zeros (n : Nat) : AllOk (List.replicate n 0) := by
  intro x hx; rw [(List.mem_replicate.1 hx).2]; simp [Ok64]
theorem AllOk.times {a b : List Int} : AllOk (ptimes a b) := by
  have : ∀ i, AllOk (timesGo a b i) := by
    intro i
    induction i with
    | zero => exact AllOk.zeros _
    | succ i ih => exact AllOk.addAt ih
  exact this _
theorem AllOk.plus {a b : List Int} {k : Int} (h : AllOk a) : AllOk (pplus a b k) := by
  refine AllOk.addAt fun x hx => ?_
  rcases List.mem_append.1 hx with hx | hx
  · exact h x hx
  · exact AllOk.zeros _ x hx
theorem AllOk.set {l : List Int} (h : AllOk l) (i : Nat) {x : Int} (hx : Ok64 x) : AllOk (l.set i x) := by
  intro y hy
  rcases List.mem_or_eq_of_mem_set hy with hy | rfl
  · exact h y hy
  · exact hx
theorem AllOk.overGo {b : List Int} : ∀ {k : Nat} {rest out : List Int}, AllOk rest → AllOk out → AllOk (overGo b k rest out).1 ∧ AllOk (overGo b k rest out).2
  | 0, _, _, h1, h2 => ⟨h1, h2⟩
  | k + 1, rest, out, h1, h2 => by rw [HySer.overGo]; exact AllOk.overGo (AllOk.subAt h1) (h2.set _ (h1.getD _))
theorem AllOk.over {a b q : List Int} (ha : AllOk a) (h : pover a b = some q) : AllOk q := by
  unfold pover at h
  split at h
  · cases h
  · split at h
    · cases h; exact (AllOk.overGo ha (AllOk.zeros _)).2
    · cases h
theorem list_of_cf {a b : List Int} (ha : AllOk a) (hb : AllOk b) (hl : a.length = b.length) (h : cf a = cf b) : a = b := by
  apply List.ext_getElem hl
  intro i h1 h2
  have := ok_ofInt (ha.getD i) (hb.getD i) (congrFun h i)
  simpa [List.getD, List.getElem?_eq_getElem, h1, h2] using this

/-- Of a product with something that leads with 1 the division finds the factor. -/
theorem overGo_exact {b : List Int} {q : Nat → R} (h1 : cf b (b.length - 1) = 1) (hbl : 0 < b.length) : ∀ {k : Nat} {rest out : List Int}, k ≤ out.length → rest.length + 1 = out.length + b.length → (∀ j, k ≤ j → q j = cf out j) →
    cf rest = conv (fun j => if j < k then q j else 0) (cf b) → cf (overGo b k rest out).1 = (fun _ => 0) ∧ ∀ j, q j = cf (overGo b k rest out).2 j
  | 0, rest, out, _, _, h4, h5 => by
    refine ⟨?_, fun j => h4 j (Nat.zero_le _)⟩
    rw [overGo, h5]
    funext n
    have e : (fun j => if j < 0 then q j else 0) = fun _ => (0 : R) := by funext j; simp
    rw [e, conv_zeroF]
  | k + 1, rest, out, h2, h3, h4, h5 => by
    rw [overGo]
    have hs : (fun j => if j < k + 1 then q j else 0) = add (fun j => if j < k then q j else 0) (mono (q k) k) := by
      funext j
      unfold add mono
      dsimp only
      by_cases h : j < k
      · rw [if_pos h, if_pos (by omega), if_neg (by omega)]; simp
      · by_cases h' : j = k
        · subst h'; simp
        · rw [if_neg (by omega), if_neg h, if_neg h']; simp
    -- the highest coefficient
    have hz : ∀ n, k + b.length - 1 ≤ n → conv (fun j => if j < k then q j else 0) (cf b) n = 0 := by
      intro n hn
      -- as a sum of monomials
      have key : ∀ m, m ≤ k → conv (fun j => if j < m then q j else 0) (cf b) n = 0 := by
        intro m
        induction m with
        | zero => intro _; have e : (fun j => if j < 0 then q j else 0) = fun _ => (0 : R) := by { funext j; simp }
                  rw [e, conv_zeroF]
        | succ m ih =>
          intro hm
          have e : (fun j => if j < m + 1 then q j else 0) = add (fun j => if j < m then q j else 0) (mono (q m) m) := by
            funext j
            unfold add mono
            dsimp only
            by_cases h : j < m
            · rw [if_pos h, if_pos (by omega), if_neg (by omega)]; simp
            · by_cases h' : j = m
              · subst h'; simp
              · rw [if_neg (by omega), if_neg h, if_neg h']; simp
          rw [e, conv_add, ih (by omega), conv_mono, if_pos (by omega), cf_out (by omega)]; simp
      exact key k (Nat.le_refl _)
    have hc : cf rest (k + b.length - 1) = q k := by
      rw [h5, hs, conv_add, hz _ (Nat.le_refl _), conv_mono, if_pos (by omega), show k + b.length - 1 - k = b.length - 1 from by omega, h1]; simp
    refine overGo_exact h1 hbl (k := k) (rest := subAt rest k (rest.getD (k + b.length - 1) 0) b b.length) (out := out.set k (rest.getD (k + b.length - 1) 0)) (by simp; omega) (by rw [length_subAt]; simp; omega) ?_ ?_
    · intro j hj
      by_cases h : j = k
      · subst h
        rw [← hc]
        unfold cf
        simp [List.getD, show j < out.length from by omega]
      · rw [h4 j (by omega)]
        have h2 : ¬ k = j := fun e => h e.symm
        unfold cf
        simp [List.getD, h2]
    · funext n
      rw [cf_subAt (by omega), h5, hs, conv_add, conv_mono]
      have hc' : BitVec.ofInt 64 (rest.getD (k + b.length - 1) 0) = q k := hc
      rw [hc']
      by_cases h5 : k ≤ n
      · rw [if_pos h5]
        by_cases h6 : n < k + b.length
        · rw [if_pos ⟨h5, h6⟩]; grind
        · rw [if_neg (by omega), cf_out (l := b) (by omega)]; grind
      · rw [if_neg h5, if_neg (by omega)]; grind

theorem all_of_cf {l : List Int} (hl : AllOk l) (h : cf l = fun _ => 0) : l.all (· == 0) = true := by
  rw [List.all_eq_true]
  intro x hx
  obtain ⟨i, hi, rfl⟩ := List.getElem_of_mem hx
  have h1 := congrFun h i
  have h2 := ok_ofInt (hl.getD i) (y := 0) (by simp [Ok64]) (by rw [show BitVec.ofInt 64 (l.getD i 0) = cf l i from rfl, h1]; rfl)
  simpa [List.getD, List.getElem?_eq_getElem, hi] using h2

theorem over_exact {a b q : List Int} (ha : AllOk a) (hq : AllOk q) (h1 : cf b (b.length - 1) = 1) (hbl : 0 < b.length) (hq0 : 0 < q.length) (hl : a.length + 1 = q.length + b.length) (h : cf a = conv (cf q) (cf b)) : pover a b = some q := by
  have hn : a.length - b.length + 1 = q.length := by omega
  obtain ⟨e1, e2⟩ := overGo_exact (q := cf q) h1 hbl (k := q.length) (rest := a) (out := List.replicate q.length 0) (by simp) (by simp; omega) (fun j hj => by rw [cf_zeros, cf_out hj]) (by
    rw [h]
    congr 1
    funext j
    by_cases hj : j < q.length
    · rw [if_pos hj]
    · rw [if_neg hj, cf_out (by omega)])
  have hok := AllOk.overGo (b := b) (k := q.length) ha (AllOk.zeros q.length)
  unfold pover
  rw [if_neg (by omega), hn, if_pos (all_of_cf hok.1 e1)]
  congr 1
  have hlen := (overGo_inv (b := b) (by intro e; rw [e] at hbl; simp at hbl) (f := cf a) (k := q.length) (rest := a) (out := List.replicate q.length 0) (by simp) (by simp; omega) (fun j _ => by rw [cf_zeros]) (by
        funext n; unfold add; rw [cf_zeros, conv_zeroF]; simp)).2
  exact list_of_cf hok.2 hq (by rw [hlen]; simp) (funext fun j => (e2 j).symm)

/-- A polynomial turned about, as one of the degree n. -/
def rv (n : Nat) (f : Nat → R) : Nat → R := fun i => if i ≤ n then f (n - i) else 0
def sh (f : Nat → R) : Nat → R := fun i => match i with | 0 => 0 | i + 1 => f i

theorem cf_reverse {l : List Int} (h : l ≠ []) : cf l.reverse = rv (l.length - 1) (cf l) := by
  have hl : 0 < l.length := List.length_pos_iff.2 h
  funext i
  unfold rv
  by_cases hi : i ≤ l.length - 1
  · rw [if_pos hi]
    unfold cf
    congr 1
    simp only [List.getD]
    rw [List.getElem?_reverse (by omega)]
  · rw [if_neg hi, cf_out (by simp; omega)]

theorem rv_add (n : Nat) (f g : Nat → R) : rv n (add f g) = add (rv n f) (rv n g) := by
  funext i; unfold rv add; by_cases h : i ≤ n <;> simp [h]
theorem rv_smul (n : Nat) (a : R) (f : Nat → R) : rv n (smul a f) = smul a (rv n f) := by
  funext i; unfold rv smul; by_cases h : i ≤ n <;> simp [h]
/-- Of a lower degree. -/
theorem rv_succ {n : Nat} {f : Nat → R} (h : f (n + 1) = 0) : rv (n + 1) f = sh (rv n f) := by
  funext i
  cases i with
  | zero => simp [rv, sh, h]
  | succ i => simp only [rv, sh, Nat.add_le_add_iff_right, Nat.add_sub_add_right]
theorem rv_sh (n : Nat) (f : Nat → R) : rv (n + 1) (sh f) = rv n f := by
  funext i
  unfold rv
  by_cases h : i ≤ n
  · rw [if_pos h, if_pos (by omega), show n + 1 - i = (n - i) + 1 from by omega]; rfl
  · rw [if_neg h]
    by_cases h2 : i ≤ n + 1
    · rw [if_pos h2, show n + 1 - i = 0 from by omega]; rfl
    · rw [if_neg h2]
theorem conv_sh (f g : Nat → R) : conv (sh f) g = sh (conv f g) := by
  funext n
  cases n with
  | zero => rw [conv_zero]; simp [sh]
  | succ n =>
    rw [conv_succ]
    have e : tl (sh f) = f := rfl
    rw [e]
    show 0 * _ + _ = conv f g n
    simp
theorem sh_add (f g : Nat → R) : sh (add f g) = add (sh f) (sh g) := by
  funext i; cases i <;> simp [sh, add]
theorem sh_smul (a : R) (f : Nat → R) : sh (smul a f) = smul a (sh f) := by
  funext i; cases i <;> simp [sh, smul]

/-- The product of polynomials turned about. -/
theorem rv_conv {m : Nat} {g : Nat → R} (hg : ∀ i, m < i → g i = 0) : ∀ (n : Nat) (f : Nat → R), (∀ i, n < i → f i = 0) → rv (n + m) (conv f g) = conv (rv n f) (rv m g)
  | 0, f, hf => by
    have e : f = mono (f 0) 0 := by
      funext i
      unfold mono
      by_cases h : i = 0
      · subst h; simp
      · rw [if_neg h, hf i (by omega)]
    have e2 : rv 0 f = mono (f 0) 0 := by
      funext i
      unfold rv mono
      by_cases h : i = 0
      · subst h; simp
      · rw [if_neg h, if_neg (by omega)]
    rw [e2]
    funext n
    rw [conv_mono, if_pos (Nat.zero_le _), Nat.sub_zero, Nat.zero_add]
    have : conv f g = smul (f 0) g := by
      rw [e]; funext k; rw [conv_mono]; simp [smul, mono]
    rw [this, rv_smul]; rfl
  | n + 1, f, hf => by
    -- f = f 0 + t (tl f)
    have e : f = add (mono (f 0) 0) (sh (tl f)) := by
      funext i
      cases i with
      | zero => simp [add, mono, sh]
      | succ i => simp [add, mono, sh, tl]
    have ih := rv_conv hg n (tl f) (fun i hi => hf (i + 1) (by omega))
    have e1 : conv f g = add (smul (f 0) g) (sh (conv (tl f) g)) := by
      have : conv f g = conv (add (mono (f 0) 0) (sh (tl f))) g := by rw [← e]
      rw [this]
      funext k
      rw [conv_add, conv_sh, conv_mono, if_pos (Nat.zero_le _)]; rfl
    have e2 : rv (n + 1) f = add (mono (f 0) (n + 1)) (rv n (tl f)) := by
      funext i
      unfold rv add mono
      dsimp only
      by_cases h : i ≤ n
      · rw [if_pos h, if_pos (by omega), if_neg (by omega), show n + 1 - i = (n - i) + 1 from by omega]; simp [tl]
      · by_cases h2 : i = n + 1
        · subst h2; simp; omega
        · rw [if_neg (by omega), if_neg h, if_neg h2]; simp
    rw [e1, e2, rv_add, rv_smul, show n + 1 + m = (n + m) + 1 from by omega, rv_sh, ih]
    funext k
    rw [conv_add]
    unfold add
    congr 1
    rw [conv_mono]
    unfold smul rv
    by_cases h : k ≤ n + m + 1
    · rw [if_pos h]
      by_cases h2 : n + 1 ≤ k
      · rw [if_pos h2, if_pos (by omega), show m - (k - (n + 1)) = n + m + 1 - k from by omega]
      · rw [if_neg h2, hg _ (by omega)]; simp
    · rw [if_neg h]
      by_cases h2 : n + 1 ≤ k
      · rw [if_pos h2, if_neg (by omega)]
      · rw [if_neg h2]; simp

/-- 1 + t + .. + t^(m-1). -/
def ones (m : Nat) : List Int := List.replicate m 1
theorem cf_ones (m : Nat) (i : Nat) : cf (ones m) i = if i < m then 1 else 0 := by
  unfold cf ones
  simp only [List.getD, List.getElem?_replicate]
  split <;> simp <;> rfl
theorem ones_ok (m : Nat) : AllOk (ones m) := by
  intro x hx; rw [(List.mem_replicate.1 hx).2]; simp [Ok64]
theorem rv_ones {m : Nat} (hm : 0 < m) : rv (m - 1) (cf (ones m)) = cf (ones m) := by
  funext i
  unfold rv
  rw [cf_ones, cf_ones]
  by_cases h : i < m
  · rw [if_pos (by omega), if_pos (by omega), if_pos h]
  · rw [if_neg (by omega), if_neg h]

/-- A polynomial without zeros at its end. -/
def trimGo : Nat → List Int → List Int
  | 0, l => l
  | f + 1, l => if 1 < l.length ∧ l.getD (l.length - 1) 0 = 0 then trimGo f l.dropLast else l
def ptrim (l : List Int) : List Int := trimGo l.length l
theorem cf_dropLast {l : List Int} (h : l.getD (l.length - 1) 0 = 0) : cf l.dropLast = cf l := by
  funext i
  unfold cf
  congr 1
  simp only [List.getD, List.getElem?_dropLast] at h ⊢
  by_cases hi : i < l.length - 1
  · rw [if_pos hi]
  · rw [if_neg hi]
    by_cases h2 : i = l.length - 1
    · subst h2; rw [h]; rfl
    · rw [List.getElem?_eq_none (by omega)]
theorem cf_trimGo : ∀ (f : Nat) (l : List Int), cf (trimGo f l) = cf l
  | 0, _ => rfl
  | f + 1, l => by
    rw [trimGo]
    split
    · rename_i h; rw [cf_trimGo f, cf_dropLast h.2]
    · rfl
theorem cf_trim (l : List Int) : cf (ptrim l) = cf l := cf_trimGo _ _
theorem trimGo_ok : ∀ (f : Nat) {l : List Int}, AllOk l → AllOk (trimGo f l)
  | 0, _, h => h
  | f + 1, l, h => by
    rw [trimGo]
    split
    · exact trimGo_ok f fun x hx => h x ((List.dropLast_sublist _).subset hx)
    · exact h
theorem trimGo_len : ∀ (f : Nat) {l : List Int}, (trimGo f l).length ≤ l.length ∧ (0 < l.length → 0 < (trimGo f l).length)
  | 0, _ => ⟨Nat.le_refl _, id⟩
  | f + 1, l => by
    rw [trimGo]
    split
    · rename_i h
      have := trimGo_len f (l := l.dropLast)
      simp at this ⊢
      omega
    · exact ⟨Nat.le_refl _, id⟩

/-- What both have in common with c is divided out. -/
def redGo (c : List Int) : Nat → List Int → List Int → List Int × List Int
  | 0, n, d => (n, d)
  | f + 1, n, d => match pover n c, pover d c with | some a, some b => redGo c f a b | _, _ => (n, d)
def red (s : List Int × List Int) (c : List Int) : List Int × List Int := redGo c s.1.length s.1 s.2

/-- The same fraction. -/
structure Frac (N D : Nat → R) (s : List Int × List Int) : Prop where
  eq : conv (cf s.1) D = conv N (cf s.2)
  one : cf s.2 0 = 1

theorem Frac.redGo {N D : Nat → R} {c : List Int} (hc : c ≠ []) (h1 : cf c 0 = 1) : ∀ (f : Nat) (n d : List Int), Frac N D (n, d) → Frac N D (redGo c f n d)
  | 0, _, _, h => h
  | f + 1, n, d, h => by
    rw [HySer.redGo]
    cases ha : pover n c with
    | none => exact h
    | some a =>
      cases hb : pover d c with
      | none => exact h
      | some b =>
        refine Frac.redGo hc h1 f a b ?_
        obtain ⟨ea, _⟩ := over_mul hc ha
        obtain ⟨eb, _⟩ := over_mul hc hb
        have h2 := h.one
        have h3 := h.eq
        simp only [ea, eb] at h2 h3
        constructor
        · refine cancel h1 ?_
          rw [← conv_assoc', conv_comm' (cf c) (cf a), h3, ← conv_assoc', conv_comm' N, conv_comm' (cf c) , conv_assoc']
        · rw [conv_zero, h1] at h2
          simpa using h2

theorem Frac.red {N D : Nat → R} : ∀ (cs : List (List Int)) (s : List Int × List Int), (∀ c ∈ cs, c ≠ [] ∧ cf c 0 = 1) → Frac N D s → Frac N D (cs.foldl red s)
  | [], _, _, h => h
  | c :: cs, s, hc, h => by
    rw [List.foldl_cons]
    exact Frac.red cs _ (fun x hx => hc x (List.mem_cons_of_mem _ hx)) (Frac.redGo (hc c List.mem_cons_self).1 (hc c List.mem_cons_self).2 _ _ _ h)

/-- The number of 64 bits without a sign. -/
def wrapU (n : Int) : Int := n % 18446744073709551616
theorem ofInt_wrapU (x : Int) : BitVec.ofInt 64 (wrapU x) = BitVec.ofInt 64 x := by
  apply BitVec.eq_of_toNat_eq
  simp only [BitVec.toNat_ofInt]
  unfold wrapU
  congr 1
  omega

/-- The coefficients of the series of a fraction, one after the other: the first i products are taken off. -/
def coefSub (num den l : List Int) (k : Nat) : Nat → Int
  | 0 => if k < num.length then wrapU (num.getD k 0) else 0
  | i + 1 => wrapU (coefSub num den l k i - wrapU (wrapU (den.getD (i + 1) 0) * l.getD (k - (i + 1)) 0))
def coefAt (num den l : List Int) (k : Nat) : Int := coefSub num den l k (min (den.length - 1) k)
def coefs (num den : List Int) : Nat → List Int
  | 0 => []
  | k + 1 => coefs num den k ++ [coefAt num den (coefs num den k) k]

theorem length_coefs {num den : List Int} : ∀ {k : Nat}, (coefs num den k).length = k
  | 0 => rfl
  | k + 1 => by rw [coefs, List.length_append, length_coefs]; rfl
theorem coefs_at {num den : List Int} {k : Nat} : ∀ {n : Nat}, k < n → (coefs num den n).getD k 0 = coefAt num den (coefs num den k) k
  | 0, h => absurd h (Nat.not_lt_zero _)
  | n + 1, h => by
    rw [coefs]
    by_cases h1 : k < n
    · rw [← coefs_at h1]
      simp [List.getD, List.getElem?_append, length_coefs, h1]
    · obtain rfl : k = n := by omega
      simp [List.getD, List.getElem?_append, length_coefs]
def ser (num den : List Int) : Nat → R := fun k => BitVec.ofInt 64 (coefAt num den (coefs num den k) k)

/-- f 1 * g (k - 1) + .. + f i * g (k - i). -/
def psum (f g : Nat → R) (k : Nat) : Nat → R
  | 0 => 0
  | i + 1 => psum f g k i + f (i + 1) * g (k - (i + 1))
theorem psum_tl (f g : Nat → R) (k : Nat) : ∀ i, psum f g (k + 1) (i + 1) = f 1 * g k + psum (tl f) g k i
  | 0 => by simp [psum]
  | i + 1 => by
    rw [psum, psum_tl f g k i, psum]
    have e : k + 1 - (i + 1 + 1) = k - (i + 1) := by omega
    rw [e]
    have e2 : tl f (i + 1) = f (i + 1 + 1) := rfl
    rw [e2]
    grind
theorem conv_psum (f g : Nat → R) (k : Nat) : conv f g k = f 0 * g k + psum f g k k := by
  induction k generalizing f with
  | zero => simp [conv_zero, psum]
  | succ k ih =>
    rw [conv_succ, ih, psum_tl]
    rfl
theorem psum_min {f g : Nat → R} {k m : Nat} (h : ∀ i, m < i → f i = 0) : ∀ i, psum f g k i = psum f g k (min m i)
  | 0 => by simp
  | i + 1 => by
    by_cases hi : i + 1 ≤ m
    · rw [Nat.min_eq_right hi]
    · rw [psum, psum_min h i, h (i + 1) (by omega), show min m (i + 1) = min m i from by omega]
      simp

theorem ofInt_coefSub {num den : List Int} {k : Nat} : ∀ i, i ≤ k → BitVec.ofInt 64 (coefSub num den (coefs num den k) k i) = cf num k - psum (cf den) (ser num den) k i
  | 0, _ => by
    rw [coefSub, psum]
    split
    · rw [ofInt_wrapU]; unfold cf; simp
    · rename_i h; rw [cf_out (l := num) (by omega)]; simp
  | i + 1, h => by
    have ih := ofInt_coefSub (num := num) (den := den) (k := k) i (by omega)
    rw [coefSub, ofInt_wrapU, Int.sub_eq_add_neg, BitVec.ofInt_add, ih, BitVec.ofInt_neg, ofInt_wrapU, BitVec.ofInt_mul, ofInt_wrapU, psum]
    rw [coefs_at (k := k - (i + 1)) (n := k) (by omega)]
    have e1 : BitVec.ofInt 64 (den.getD (i + 1) 0) = cf den (i + 1) := rfl
    have e2 : BitVec.ofInt 64 (coefAt num den (coefs num den (k - (i + 1))) (k - (i + 1))) = ser num den (k - (i + 1)) := rfl
    rw [e1, e2]
    grind

/-- The series is the fraction. -/
theorem ser_eq {num den : List Int} (h : cf den 0 = 1) : conv (cf den) (ser num den) = cf num := by
  funext k
  rw [conv_psum, h, psum_min (m := den.length - 1) (fun i hi => cf_out (by omega))]
  have : ser num den k = cf num k - psum (cf den) (ser num den) k (min (den.length - 1) k) := ofInt_coefSub _ (by omega)
  rw [this]
  grind

/-- Equal fractions have the same series. -/
theorem ser_same {n d N D : List Int} (h : Frac (cf N) (cf D) (n, d)) (hD : cf D 0 = 1) : ser n d = ser N D := by
  have h1 := ser_eq (num := n) h.one
  have h2 := ser_eq (num := N) hD
  simp only at h1
  refine cancel (f := conv (cf d) (cf D)) (by rw [conv_zero, h.one, hD]; rfl) ?_
  rw [conv_comm' (cf d) (cf D), conv_assoc', h1, conv_comm' (cf D) (cf n), h.eq, conv_comm' (cf N), conv_comm' (cf D) (cf d), conv_assoc', h2]

theorem coefAt_bd (num den l : List Int) (k : Nat) : 0 ≤ coefAt num den l k ∧ coefAt num den l k < 18446744073709551616 := by
  unfold coefAt
  generalize min (den.length - 1) k = i
  cases i with
  | zero => rw [coefSub]; unfold wrapU; split <;> omega
  | succ i => rw [coefSub]; unfold wrapU; omega

theorem coefs_same {n d N D : List Int} (h : Frac (cf N) (cf D) (n, d)) (hD : cf D 0 = 1) (k : Nat) : coefAt n d (coefs n d k) k = coefAt N D (coefs N D k) k := by
  have h1 := congrArg BitVec.toNat (congrFun (ser_same h hD) k)
  have b1 := coefAt_bd n d (coefs n d k) k
  have b2 := coefAt_bd N D (coefs N D k) k
  simp only [ser, BitVec.toNat_ofInt] at h1
  omega

/-- The fraction of the series: of the orders that are not 0. -/
def prodAll (ms : List Nat) : List Int := ms.foldl (fun a m => ptimes a (ones m)) [1]
def fracD (ms : List Nat) : List Int := ptimes (prodAll ms) [1, 1]
def fracN (ms : List Nat) : List Int := ms.foldl (fun n m => pplus n ((pover (prodAll ms) (ones m)).getD []) 1) (pplus (fracD ms) (prodAll ms) (-3))
/-- The circles' polynomials. -/
def circStep (k : Nat) (out : List (List Int)) : List Int := (out.zipIdx).foldl (fun p q => if k % (q.2 + 2) = 0 then (pover p q.1).getD [] else p) (ones k)
def circs : Nat → List (List Int)
  | 0 => []
  | k + 1 => circs k ++ [circStep (k + 2) (circs k)]
def frac (ms : List Nat) : List Int × List Int := (circs 11).foldl red (ptrim (fracD ms).reverse, ptrim (fracN ms).reverse)

/-- The products of all orders but for one. -/
def restAll (ms : List Nat) (i : Nat) : List Int := prodAll (ms.eraseIdx i)
/-- The specification's fraction. -/
def refA (ms : List Nat) : List Int := (List.range ms.length).foldl (fun a i => pplus a (restAll ms i) 1) (pplus (fracD ms) (prodAll ms) (-3))
def refDen (ms : List Nat) : List Int := ptrim (refA ms).reverse

theorem circs_ok : ∀ c ∈ circs 11, c ≠ [] ∧ cf c 0 = 1 := by
  have : (circs 11).all (fun c => c.length != 0 && c.getD 0 0 == 1) = true := by decide +kernel
  intro c hc
  have h := List.all_eq_true.1 this c hc
  simp only [Bool.and_eq_true, bne_iff_ne, beq_iff_eq] at h
  refine ⟨fun e => h.1 (by rw [e]; rfl), ?_⟩
  unfold cf
  rw [h.2]
  rfl

theorem ones_ne {m : Nat} (hm : 2 ≤ m) : ones m ≠ [] := by intro e; have := congrArg List.length e; simp [ones] at this; omega
theorem ptimes_len {a b : List Int} (ha : a ≠ []) (hb : b ≠ []) : (ptimes a b).length + 1 = a.length + b.length ∧ ptimes a b ≠ [] := by
  have h1 := List.length_pos_iff.2 ha
  have h2 := List.length_pos_iff.2 hb
  have h3 := length_ptimes a b
  exact ⟨by omega, fun e => by rw [e] at h3; simp at h3; omega⟩

/-- What holds of a product of ones. -/
structure Pal (l : List Int) : Prop where
  ne : l ≠ []
  ok : AllOk l
  pal : rv (l.length - 1) (cf l) = cf l
  one : cf l 0 = 1

theorem Pal.times {a b : List Int} (ha : Pal a) (hb : Pal b) : Pal (ptimes a b) := by
  obtain ⟨h1, h2⟩ := ptimes_len ha.ne hb.ne
  have l1 := List.length_pos_iff.2 ha.ne
  have l2 := List.length_pos_iff.2 hb.ne
  refine ⟨h2, AllOk.times, ?_, ?_⟩
  · rw [cf_times hb.ne, show (ptimes a b).length - 1 = (a.length - 1) + (b.length - 1) from by omega, rv_conv (fun i hi => cf_out (by omega)) _ _ (fun i hi => cf_out (by omega)), ha.pal, hb.pal]
  · rw [cf_times hb.ne, conv_zero, ha.one, hb.one]; rfl
theorem Pal.ones {m : Nat} (hm : 2 ≤ m) : Pal (ones m) := by
  refine ⟨ones_ne hm, ones_ok m, ?_, ?_⟩
  · have : (HySer.ones m).length = m := by simp [HySer.ones]
    rw [this]
    exact rv_ones (by omega)
  · rw [cf_ones, if_pos (by omega)]
theorem Pal.unit : Pal [1] := by
  refine ⟨by simp, by intro x hx; simp at hx; subst hx; simp [Ok64], ?_, rfl⟩
  exact rv_ones (m := 1) (by omega)
theorem Pal.two : Pal [1, 1] := Pal.ones (m := 2) (by omega)

theorem prod_snoc (ms : List Nat) (m : Nat) : prodAll (ms ++ [m]) = ptimes (prodAll ms) (ones m) := by
  unfold prodAll; rw [List.foldl_append]; rfl

theorem Pal.prod : ∀ (ms : List Nat) {a : List Int}, (∀ m ∈ ms, 2 ≤ m) → Pal a → Pal (ms.foldl (fun a m => ptimes a (HySer.ones m)) a)
  | [], _, _, h => h
  | m :: ms, a, hm, h => by
    rw [List.foldl_cons]
    exact Pal.prod ms (fun x hx => hm x (List.mem_cons_of_mem _ hx)) (h.times (Pal.ones (hm m List.mem_cons_self)))
theorem prod_pal {ms : List Nat} (h : ∀ m ∈ ms, 2 ≤ m) : Pal (prodAll ms) := Pal.prod ms h Pal.unit
theorem fracD_pal {ms : List Nat} (h : ∀ m ∈ ms, 2 ≤ m) : Pal (fracD ms) := (prod_pal h).times Pal.two
theorem fracD_len {ms : List Nat} (h : ∀ m ∈ ms, 2 ≤ m) : (fracD ms).length = (prodAll ms).length + 1 := by
  have := (ptimes_len (prod_pal h).ne (b := [1, 1]) (by simp)).1
  simp at this
  unfold fracD
  omega

/-- The product as a series, and how long it is. -/
def serAll : List Nat → Nat → R
  | [] => one
  | m :: ms => conv (cf (ones m)) (serAll ms)
def lenAll : List Nat → Nat
  | [] => 1
  | m :: ms => lenAll ms + m - 1
theorem lenAll_pos : ∀ {ms : List Nat}, (∀ m ∈ ms, 2 ≤ m) → 0 < lenAll ms
  | [], _ => by simp [lenAll]
  | m :: ms, h => by
    have h1 := h m List.mem_cons_self
    have h2 := lenAll_pos (ms := ms) (fun x hx => h x (List.mem_cons_of_mem _ hx))
    rw [lenAll]; omega
theorem cf_unit : cf [1] = one := by
  funext i; rw [show ([1] : List Int) = ones 1 from rfl, cf_ones]; unfold one
  by_cases h : i = 0
  · rw [if_pos (by omega), if_pos h]
  · rw [if_neg (by omega), if_neg h]
theorem prod_ser : ∀ (ms : List Nat) {a : List Int}, (∀ m ∈ ms, 2 ≤ m) → a ≠ [] → cf (ms.foldl (fun a m => ptimes a (ones m)) a) = conv (cf a) (serAll ms) ∧ (ms.foldl (fun a m => ptimes a (ones m)) a).length + 1 = a.length + lenAll ms
  | [], a, _, _ => by
    refine ⟨?_, rfl⟩
    rw [List.foldl_nil, conv_comm']
    funext i; rw [serAll, one_conv]
  | m :: ms, a, hm, ha => by
    have h2 := hm m List.mem_cons_self
    obtain ⟨e1, e2⟩ := ptimes_len ha (ones_ne h2)
    obtain ⟨i1, i2⟩ := prod_ser ms (fun x hx => hm x (List.mem_cons_of_mem _ hx)) e2
    have hl := lenAll_pos (ms := ms) (fun x hx => hm x (List.mem_cons_of_mem _ hx))
    rw [List.foldl_cons]
    have hlen : (ones m).length = m := by simp [ones]
    refine ⟨?_, ?_⟩
    · rw [i1, cf_times (ones_ne h2), conv_assoc']; rfl
    · rw [i2, lenAll]; omega
theorem cf_prod {ms : List Nat} (h : ∀ m ∈ ms, 2 ≤ m) : cf (prodAll ms) = serAll ms ∧ (prodAll ms).length = lenAll ms := by
  obtain ⟨e1, e2⟩ := prod_ser ms (a := [1]) h (by simp)
  have e2' : (prodAll ms).length + 1 = 1 + lenAll ms := e2
  refine ⟨?_, by omega⟩
  rw [show cf (prodAll ms) = conv (cf [1]) (serAll ms) from e1, cf_unit]
  funext i; rw [one_conv]

theorem ser_erase : ∀ {ms : List Nat} {i : Nat} (hi : i < ms.length), serAll ms = conv (serAll (ms.eraseIdx i)) (cf (ones ms[i])) ∧ ((∀ m ∈ ms, 2 ≤ m) → lenAll ms + 1 = lenAll (ms.eraseIdx i) + ms[i])
  | m :: ms, 0, _ => by
    refine ⟨conv_comm' _ _, fun h => ?_⟩
    have h1 := h m List.mem_cons_self
    have := lenAll_pos (ms := ms) (fun x hx => h x (List.mem_cons_of_mem _ hx))
    simp only [lenAll, List.eraseIdx_cons_zero, List.getElem_cons_zero]
    omega
  | m :: ms, i + 1, hi => by
    have hi' : i < ms.length := by simpa using hi
    obtain ⟨e1, e2⟩ := ser_erase hi'
    refine ⟨?_, fun h => ?_⟩
    · show conv (cf (ones m)) (serAll ms) = conv (conv (cf (ones m)) (serAll (ms.eraseIdx i))) (cf (ones ms[i]))
      rw [e1, conv_assoc']
    · have h1 := h m List.mem_cons_self
      have h2 := e2 (fun x hx => h x (List.mem_cons_of_mem _ hx))
      have h3 := lenAll_pos (ms := ms.eraseIdx i) (fun x hx => h x (List.mem_cons_of_mem _ ((List.eraseIdx_sublist ms i).subset hx)))
      simp only [lenAll, List.eraseIdx_cons_succ, List.getElem_cons_succ]
      omega

/-- A part of the program is the specification's rest. -/
theorem part_rest {ms : List Nat} (h : ∀ m ∈ ms, 2 ≤ m) {i : Nat} (hi : i < ms.length) : pover (prodAll ms) (ones ms[i]) = some (restAll ms i) := by
  have hm := h _ (List.getElem_mem hi)
  have h' : ∀ m ∈ ms.eraseIdx i, 2 ≤ m := fun x hx => h x ((List.eraseIdx_sublist ms i).subset hx)
  obtain ⟨e1, e2⟩ := cf_prod h
  obtain ⟨e3, e4⟩ := cf_prod h'
  obtain ⟨e5, e6⟩ := ser_erase hi
  have hl : (ones ms[i]).length = ms[i] := by simp [ones]
  have hp := lenAll_pos h'
  refine over_exact (prod_pal h).ok (prod_pal h').ok ?_ (by omega) (by unfold restAll; omega) ?_ ?_
  · rw [hl, cf_ones, if_pos (by omega)]
  · have := e6 h; unfold restAll; omega
  · rw [e1, e5]; unfold restAll; rw [e3]

theorem foldl_range (ms : List Nat) (F : List Int → Nat → List Int) : ∀ (k : Nat), k ≤ ms.length → ∀ (G : List Int → Nat → List Int), (∀ a i (hi : i < ms.length), F a ms[i] = G a i) → ∀ a, (ms.take k).foldl F a = (List.range k).foldl G a
  | 0, _, _, _, _ => by simp
  | k + 1, hk, G, hG, a => by
    rw [List.take_succ_eq_append_getElem (by omega), List.foldl_append, List.range_succ, List.foldl_append, foldl_range ms F k (by omega) G hG]
    simp only [List.foldl_cons, List.foldl_nil]
    exact hG _ _ _

/-- Both numerators of the turned fraction are the same. -/
theorem frac_ref {ms : List Nat} (h : ∀ m ∈ ms, 2 ≤ m) : fracN ms = refA ms := by
  unfold fracN refA
  have := foldl_range ms (fun n m => pplus n ((pover (prodAll ms) (ones m)).getD []) 1) ms.length (Nat.le_refl _) (fun a i => pplus a (restAll ms i) 1) (fun a i hi => by
    simp only [part_rest h hi, Option.getD_some]) (pplus (fracD ms) (prodAll ms) (-3))
  rwa [List.take_length] at this

theorem refA_len {ms : List Nat} (h : ∀ m ∈ ms, 2 ≤ m) : (refA ms).length = (fracD ms).length ∧ AllOk (refA ms) ∧ cf (refA ms) ((fracD ms).length - 1) = 1 := by
  have hd := fracD_len h
  have hD := fracD_pal h
  have key : ∀ k, k ≤ ms.length → ∀ l, l = (List.range k).foldl (fun a i => pplus a (restAll ms i) 1) (pplus (fracD ms) (prodAll ms) (-3)) → l.length = (fracD ms).length ∧ AllOk l ∧ cf l ((fracD ms).length - 1) = 1 := by
    intro k
    induction k with
    | zero =>
      rintro _ l rfl
      simp only [List.range_zero, List.foldl_nil]
      refine ⟨by rw [length_pplus]; omega, AllOk.plus hD.ok, ?_⟩
      rw [cf_plus]
      unfold add smul
      rw [cf_out (l := prodAll ms) (by omega)]
      have h1 := congrFun hD.pal ((fracD ms).length - 1)
      unfold rv at h1
      rw [if_pos (Nat.le_refl _), Nat.sub_self, hD.one] at h1
      rw [← h1]; simp
    | succ k ih =>
      rintro hk l rfl
      obtain ⟨i1, i2, i3⟩ := ih (by omega) _ rfl
      rw [List.range_succ, List.foldl_append]
      simp only [List.foldl_cons, List.foldl_nil]
      have hr : (restAll ms k).length ≤ (prodAll ms).length := by
        have h' : ∀ m ∈ ms.eraseIdx k, 2 ≤ m := fun x hx => h x ((List.eraseIdx_sublist ms k).subset hx)
        obtain ⟨_, e2⟩ := cf_prod h
        obtain ⟨_, e4⟩ := cf_prod h'
        have e6 := (ser_erase (ms := ms) (i := k) (by omega)).2 h
        have := h _ (List.getElem_mem (l := ms) (n := k) (by omega))
        unfold restAll; omega
      refine ⟨by rw [length_pplus, i1]; omega, AllOk.plus i2, ?_⟩
      rw [cf_plus]
      unfold add smul
      rw [i3, cf_out (l := restAll ms k) (by omega)]; simp
  exact key ms.length (Nat.le_refl _) _ rfl

theorem reverse_ne {l : List Int} (h : l ≠ []) : l.reverse ≠ [] := by simpa using h

/-- The specification's denominator begins with 1. -/
theorem refDen_one {ms : List Nat} (h : ∀ m ∈ ms, 2 ≤ m) : cf (refDen ms) = rv ((fracD ms).length - 1) (cf (refA ms)) ∧ cf (refDen ms) 0 = 1 := by
  obtain ⟨h1, h2, h3⟩ := refA_len h
  have hne : refA ms ≠ [] := by intro e; rw [e] at h1; have := List.length_pos_iff.2 (fracD_pal h).ne; simp at h1; omega
  have e : cf (refDen ms) = rv ((fracD ms).length - 1) (cf (refA ms)) := by
    unfold refDen
    rw [cf_trim, cf_reverse hne, h1]
  refine ⟨e, ?_⟩
  rw [e]
  unfold rv
  rw [if_pos (Nat.zero_le _), Nat.sub_zero, h3]

/-- The program's fraction is the specification's. -/
theorem frac_same {ms : List Nat} (h : ∀ m ∈ ms, 2 ≤ m) : Frac (cf (fracD ms)) (cf (refDen ms)) (frac ms) := by
  unfold frac
  refine Frac.red _ _ circs_ok ?_
  have hD := fracD_pal h
  rw [frac_ref h]
  constructor
  · simp only
    rw [cf_trim, cf_reverse hD.ne, hD.pal]
    rfl
  · exact (refDen_one h).2

/-- The law of TilesCounts. -/
theorem counts_same {ms : List Nat} (h : ∀ m ∈ ms, 2 ≤ m) (k : Nat) : coefAt (frac ms).1 (frac ms).2 (coefs (frac ms).1 (frac ms).2 k) k = coefAt (fracD ms) (refDen ms) (coefs (fracD ms) (refDen ms) k) k := by
  have h1 := frac_same h
  generalize frac ms = s at *
  obtain ⟨n, d⟩ := s
  exact coefs_same h1 (refDen_one h).2 k

end HySer
