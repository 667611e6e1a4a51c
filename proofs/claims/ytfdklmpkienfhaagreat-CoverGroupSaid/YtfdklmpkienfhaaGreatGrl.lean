/- Plain Lean: what the law CoverGroup says of words that lead from points; equal codes are equal actions. -/
import Derived.Test.YtfdklmpkienfhaaGreatNm
namespace Go.Proofs.YtfdklmpkienfhaaGreat
set_option linter.unusedSimpArgs false
set_option linter.unusedVariables false
open Hy (Lets IsNF Eqv)
open Cov (ledP Iso)

/-- What a true action is. -/
structure Act3 (a b c : Int) (A : Nat → List Int) : Prop where
  ord : Hy.ordErr a b c = 0
  sh : Shaped A
  rel : Cov.HoldsR (ordN a b c) (letters A) (A 0).length
  full : ∀ p, p < (A 0).length → (Cov.met (letters A) (A 0).length p).length = (A 0).length

theorem act3 {a b c : Int} {A : Nat → List Int} (h : actErr a b c A = 0) : Act3 a b c A := by
  obtain ⟨ho, hs, hw⟩ := actErr_zero h
  have hr := (Cov.holds_same hs.into).1 hw.1
  exact ⟨ho, hs, hr, fun p hp => Cov.full_any hs.into (Cov.holds_inv hr) hs.1.1 hp hw.2⟩
theorem Act3.inv {a b c : Int} {A : Nat → List Int} (h : Act3 a b c A) : Cov.Inv2 (letters A) (A 0).length := Cov.holds_inv h.rel

theorem byteOf_inj {x y : Int} (hx : 0 ≤ x ∧ x < 256) (hy : 0 ≤ y ∧ y < 256) (h : byteOf x = byteOf y) : x = y := by
  unfold byteOf at h
  have := congrArg UInt8.toNat h
  simp at this
  omega

/-- Equal codes are equal lists. -/
theorem codeL_inj {A B : Nat → List Int} {n : Nat} (ha : ∀ i, i < 3 → (A i).length = n) (hb : ∀ i, i < 3 → (B i).length = n) (sa : ∀ i, i < 3 → ∀ x ∈ A i, 0 ≤ x ∧ x < 256) (sb : ∀ i, i < 3 → ∀ x ∈ B i, 0 ≤ x ∧ x < 256) (h : codeL A = codeL B) : ∀ i, i < 3 → A i = B i := by
  have inj : ∀ (L M : List Int), (∀ x ∈ L, 0 ≤ x ∧ x < 256) → (∀ x ∈ M, 0 ≤ x ∧ x < 256) → L.map byteOf = M.map byteOf → L = M := by
    intro L
    induction L with
    | nil => intro M _ _ h; cases M with
      | nil => rfl
      | cons y M => simp at h
    | cons x L ih => intro M hL hM h; cases M with
      | nil => simp at h
      | cons y M =>
        simp only [List.map_cons, List.cons.injEq] at h
        rw [byteOf_inj (hL x (by simp)) (hM y (by simp)) h.1, ih M (fun z hz => hL z (by simp [hz])) (fun z hz => hM z (by simp [hz])) h.2]
  unfold codeL at h
  have h' := inj _ _ (fun x hx => by
    simp only [List.mem_append] at hx
    rcases hx with (hx | hx) | hx
    · exact sa 0 (by omega) x hx
    · exact sa 1 (by omega) x hx
    · exact sa 2 (by omega) x hx) (fun x hx => by
    simp only [List.mem_append] at hx
    rcases hx with (hx | hx) | hx
    · exact sb 0 (by omega) x hx
    · exact sb 1 (by omega) x hx
    · exact sb 2 (by omega) x hx) h
  have e1 := List.append_inj h' (by simp [ha 0 (by omega), ha 1 (by omega), hb 0 (by omega), hb 1 (by omega)])
  have e2 := List.append_inj e1.1 (by simp [ha 0 (by omega), hb 0 (by omega)])
  intro i hi
  obtain rfl | rfl | rfl : i = 0 ∨ i = 1 ∨ i = 2 := by omega
  · exact e2.1
  · exact e2.2
  · exact e1.2

theorem canC_num {a b c : Int} {A : Nat → List Int} (h : Act3 a b c A) {p q : Nat} (hp : p < (A 0).length) (hq : q < (A 0).length) (e : canC A p = canC A q) : ∀ i k, i < 3 → k < (A 0).length → Cov.num (letters A) (A 0).length p i k = Cov.num (letters A) (A 0).length q i k := by
  have h1 := numA_small h.sh hp h.sh.1.2.1
  have h2 := numA_small h.sh hq h.sh.1.2.1
  have e3 := codeL_inj (n := (A 0).length) (fun i _ => can_len (h.full p hp) i) (fun i _ => can_len (h.full q hq) i) h1.2.2 h2.2.2 e
  intro i k hi hk
  have e4 := congrArg (fun L => L[k]?) (e3 i hi)
  simp only [canA] at e4
  rw [numA_at _ _ _ _ (by rw [h.full p hp]; exact hk), numA_at _ _ _ _ (by rw [h.full q hq]; exact hk)] at e4
  have e5 : ((Cov.num (letters A) (A 0).length p i k : Nat) : Int) = ((Cov.num (letters A) (A 0).length q i k : Nat) : Int) := by simpa using e4
  omega

theorem led_app (f : Cov.Fn) (x : Nat) (u v : List UInt8) : ledP f x (u ++ v) = ledP f (ledP f x u) v := by
  unfold Cov.ledP; rw [List.foldl_append]

theorem lets_lt {u : List UInt8} (h : Lets u) : ∀ c ∈ u, c.toNat < 3 := h

section
variable {a b c : Int} {A : Nat → List Int}

theorem Act3.lt (h : Act3 a b c A) {u : List UInt8} (hu : Lets u) {x : Nat} (hx : x < (A 0).length) : ledP (letters A) x u < (A 0).length :=
  Cov.ledP_lt h.sh.into u hu hx
theorem Act3.nf (h : Act3 a b c A) {u v : List UInt8} (hu : Lets u) (hv : IsNF (ordN a b c) u v) {x : Nat} (hx : x < (A 0).length) : ledP (letters A) x v = ledP (letters A) x u :=
  let e := Cov.ledP_eqv h.sh.into h.rel hv.1
  e.2 (e.1.2 hu) x hx
theorem Act3.back (h : Act3 a b c A) {u : List UInt8} (hu : Lets u) {x : Nat} (hx : x < (A 0).length) : ledP (letters A) (ledP (letters A) x u) u.reverse = x :=
  Cov.ledP_back h.sh.into h.inv u hu hx
theorem lets_reverse {u : List UInt8} (hu : Lets u) : Lets u.reverse := fun c hc => hu c (List.mem_reverse.1 hc)
theorem Act3.turn (h : Act3 a b c A) {u : List UInt8} (hu : Lets u) {x : Nat} (hx : x < (A 0).length) : (ledP (letters A) x u = x) ↔ (ledP (letters A) x u.reverse = x) := by
  constructor
  · intro e; have := h.back hu hx; rwa [e] at this
  · intro e; have := h.back (lets_reverse hu) hx; rwa [e, List.reverse_reverse] at this
theorem Act3.around (h : Act3 a b c A) {u v : List UInt8} (hu : Lets u) (hv : Lets v) {x : Nat} (hx : x < (A 0).length) :
    (ledP (letters A) x (u ++ v ++ u.reverse) = x) ↔ (ledP (letters A) (ledP (letters A) x u) v = ledP (letters A) x u) := by
  rw [led_app, led_app]
  have hy := h.lt hu hx
  constructor
  · intro e
    have h1 := h.back (lets_reverse hu) (h.lt hv hy)
    rw [List.reverse_reverse, e] at h1
    exact h1.symm
  · intro e; rw [e]; exact h.back hu hx
theorem Act3.both (h : Act3 a b c A) {u v : List UInt8} {x : Nat} (e : ledP (letters A) x u = x) : ledP (letters A) x (u ++ v) = ledP (letters A) x v := by
  rw [led_app, e]
/-- From a point and from another one of the same code. -/
theorem Act3.same (h : Act3 a b c A) {v : List UInt8} (hv : Lets v) {p q : Nat} (hp : p < (A 0).length) (hq : q < (A 0).length) (e : canC A p = canC A q) : (ledP (letters A) p v = p) ↔ (ledP (letters A) q v = q) := by
  have hI := Cov.iso_of_num h.sh.into h.sh.into hp hq (h.full p hp) (h.full q hq) (canC_num h hp hq e)
  have hr := Cov.iso_of_num_at (g := letters A) (q := q) h.sh.into h.sh.into hp hq
  have hl := hI.led h.sh.into v hv hp
  rw [hr] at hl
  constructor
  · intro e; rw [hl, e]; exact hr
  · intro e
    rw [e] at hl
    exact hI.inj _ _ (h.lt hv hp) hp (by rw [← hl]; exact hr.symm)
theorem Act3.normal (h : Act3 a b c A) (hn : normA A = true) {v : List UInt8} (hv : Lets v) {p q : Nat} (hp : p < (A 0).length) (hq : q < (A 0).length) : (ledP (letters A) p v = p) ↔ (ledP (letters A) q v = q) := by
  unfold normA at hn
  rw [List.all_eq_true] at hn
  have h1 := of_decide_eq_true (hn p (List.mem_range.2 hp))
  have h2 := of_decide_eq_true (hn q (List.mem_range.2 hq))
  exact h.same hv hp hq (by rw [h1, h2])
end
end Go.Proofs.YtfdklmpkienfhaaGreat
