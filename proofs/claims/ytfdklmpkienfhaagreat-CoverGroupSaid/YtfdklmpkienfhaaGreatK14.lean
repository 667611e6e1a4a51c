/- Fractions in lowest terms, and the functions Has, Check, Lead and Euler of package cover. -/
import Derived.Test.YtfdklmpkienfhaaGreatOrd
import Derived.Test.YtfdklmpkienfhaaGreatK9
import Derived.Defers
import Derived.BigRegion

/- Plain Lean: fractions in lowest terms; Euler's number of a covering comes out the same both ways. -/
set_option linter.unusedSimpArgs false
set_option linter.unusedVariables false
namespace Cov

/-- Lowest terms. -/
structure Red (r : Int × Int) : Prop where
  pos : 0 < r.2
  one : Int.gcd r.1 r.2 = 1

theorem red_uniq {r s : Int × Int} (hr : Red r) (hs : Red s) (h : r.1 * s.2 = s.1 * r.2) : r = s := by
  obtain ⟨a, b⟩ := r
  obtain ⟨c, d⟩ := s
  obtain ⟨hb, h1⟩ := hr
  obtain ⟨hd, h2⟩ := hs
  simp only at hb h1 hd h2 h
  have e : a.natAbs * d.natAbs = c.natAbs * b.natAbs := by rw [← Int.natAbs_mul, ← Int.natAbs_mul, h]
  have h1' : Nat.Coprime b.natAbs a.natAbs := by
    have : Nat.gcd a.natAbs b.natAbs = 1 := h1
    rw [Nat.gcd_comm] at this; exact this
  have h2' : Nat.Coprime d.natAbs c.natAbs := by
    have : Nat.gcd c.natAbs d.natAbs = 1 := h2
    rw [Nat.gcd_comm] at this; exact this
  have d1 : b.natAbs ∣ d.natAbs := h1'.dvd_of_dvd_mul_left (by rw [e]; exact Nat.dvd_mul_left _ _)
  have d2 : d.natAbs ∣ b.natAbs := h2'.dvd_of_dvd_mul_left (by rw [← e]; exact Nat.dvd_mul_left _ _)
  have hbd : b.natAbs = d.natAbs := Nat.dvd_antisymm d1 d2
  have hbd' : b = d := by omega
  subst hbd'
  have : a = c := Int.eq_of_mul_eq_mul_right (by omega) h
  rw [this]

/-- A fraction in lowest terms. -/
def low (n d : Int) : Int × Int := (n / (Int.gcd n d : Int), d / (Int.gcd n d : Int))
theorem low_red {n d : Int} (hd : 0 < d) : Red (low n d) ∧ (low n d).1 * d = n * (low n d).2 := by
  obtain ⟨g, hg⟩ : ∃ g, g = Int.gcd n d := ⟨_, rfl⟩
  have hgp : 0 < g := by rw [hg]; exact Int.gcd_pos_of_ne_zero_right n (by omega)
  have hn : (g : Int) ∣ n := by rw [hg]; exact Int.gcd_dvd_left n d
  have hd' : (g : Int) ∣ d := by rw [hg]; exact Int.gcd_dvd_right n d
  have hl : low n d = (n / (g : Int), d / (g : Int)) := by unfold low; rw [← hg]
  obtain ⟨a, ha⟩ := hn
  obtain ⟨b, hb⟩ := hd'
  have hg0 : (g : Int) ≠ 0 := by omega
  have ea : n / (g : Int) = a := by rw [ha]; exact Int.mul_ediv_cancel_left a hg0
  have eb : d / (g : Int) = b := by rw [hb]; exact Int.mul_ediv_cancel_left b hg0
  have hbp : 0 < b := by
    rcases Int.lt_or_le 0 b with h | h
    · exact h
    · have : (g : Int) * b ≤ 0 := Int.mul_nonpos_of_nonneg_of_nonpos (by omega) h
      omega
  have h1 : g = g * Int.gcd a b := by
    have : Int.gcd n d = Int.gcd ((g : Int) * a) ((g : Int) * b) := by rw [← ha, ← hb]
    rw [Int.gcd_mul_left, ← hg] at this
    simpa using this
  rw [hl, ea, eb]
  refine ⟨⟨hbp, ?_⟩, ?_⟩
  · show Int.gcd a b = 1
    have h2 : g * 1 = g * Int.gcd a b := by rw [Nat.mul_one]; exact h1
    exact (Nat.eq_of_mul_eq_mul_left hgp h2).symm
  · show a * d = n * b
    rw [ha, hb, Int.mul_left_comm, Int.mul_assoc]

/-- A sum of fractions as the program reckons it. -/
def plusP (a b : Int × Int) : Int × Int :=
  ((a.1 * b.2 + b.1 * a.2) / (Int.gcd (a.1 * b.2 + b.1 * a.2) (a.2 * b.2) : Int), (a.2 * b.2) / (Int.gcd (a.1 * b.2 + b.1 * a.2) (a.2 * b.2) : Int))
theorem plus_red {a b : Int × Int} (ha : 0 < a.2) (hb : 0 < b.2) : Red (plusP a b) ∧ (plusP a b).1 * (a.2 * b.2) = (a.1 * b.2 + b.1 * a.2) * (plusP a b).2 := low_red (Int.mul_pos ha hb)
theorem plus_le {a b : Int × Int} (ha : 0 < a.2) (hb : 0 < b.2) {x y : Nat} (hx : a.1.natAbs ≤ x) (hy : a.2 ≤ (y : Int)) {u v : Nat} (hu : b.1.natAbs ≤ u) (hv : b.2 ≤ (v : Int)) :
    (plusP a b).1.natAbs ≤ x * v + u * y ∧ 0 < (plusP a b).2 ∧ (plusP a b).2 ≤ ((y * v : Nat) : Int) := by
  obtain ⟨g, hg⟩ : ∃ g : Nat, g = Int.gcd (a.1 * b.2 + b.1 * a.2) (a.2 * b.2) := ⟨_, rfl⟩
  have hr := (plus_red ha hb).1.pos
  have e : plusP a b = ((a.1 * b.2 + b.1 * a.2) / (g : Int), (a.2 * b.2) / (g : Int)) := by rw [hg]; rfl
  have hd1 : (g : Int) ∣ (a.1 * b.2 + b.1 * a.2) := by rw [hg]; exact Int.gcd_dvd_left _ _
  have hpos : 0 < a.2 * b.2 := Int.mul_pos ha hb
  have hgp : 0 < g := by rw [hg]; exact Int.gcd_pos_of_ne_zero_right _ (by omega)
  have ha2 : a.2.natAbs ≤ y := by omega
  have hb2 : b.2.natAbs ≤ v := by omega
  have n1 : (a.1 * b.2).natAbs ≤ x * v := by rw [Int.natAbs_mul]; exact Nat.mul_le_mul hx hb2
  have n2 : (b.1 * a.2).natAbs ≤ u * y := by rw [Int.natAbs_mul]; exact Nat.mul_le_mul hu ha2
  have n3 : (a.2 * b.2).natAbs ≤ y * v := by rw [Int.natAbs_mul]; exact Nat.mul_le_mul ha2 hb2
  refine ⟨?_, hr, ?_⟩
  · rw [e]
    show ((a.1 * b.2 + b.1 * a.2) / (g : Int)).natAbs ≤ _
    rw [← Int.tdiv_eq_ediv_of_dvd hd1, Int.natAbs_tdiv]
    exact Nat.le_trans (Nat.div_le_self _ _) (Nat.le_trans (Int.natAbs_add_le _ _) (Nat.add_le_add n1 n2))
  · rw [e]
    show (a.2 * b.2) / (g : Int) ≤ _
    have h1 : (a.2 * b.2) / (g : Int) ≤ a.2 * b.2 := Int.ediv_le_self _ (by omega)
    omega

/-- Euler's number as the program reckons it. -/
def eulS (n : Nat) (ms : List Int) : Int × Int := ms.foldl (fun s m => if 0 < m then plusP s ((n : Int), 2 * m) else s) (plusP (-(n : Int), 2) (0, 1))
/-- .. and the sum of the specification. -/
def sumS (ms : List Int) : Int := ms.foldl (fun s m => if 0 < m then s + 27720 / m else s) (-27720)
theorem eulS_snoc (n : Nat) (ms : List Int) (m : Int) : eulS n (ms ++ [m]) = if 0 < m then plusP (eulS n ms) ((n : Int), 2 * m) else eulS n ms := by
  unfold eulS; rw [List.foldl_append]; rfl
theorem sumS_snoc (ms : List Int) (m : Int) : sumS (ms ++ [m]) = if 0 < m then sumS ms + 27720 / m else sumS ms := by
  unfold sumS; rw [List.foldl_append]; rfl
theorem eulS_nil (n : Nat) : Red (eulS n []) ∧ (eulS n []).1 * 55440 = (n : Int) * sumS [] * (eulS n []).2 := by
  have h := plus_red (a := (-(n : Int), 2)) (b := (0, 1)) (show (0 : Int) < 2 by decide) (show (0 : Int) < 1 by decide)
  refine ⟨h.1, ?_⟩
  have h2 := h.2
  simp only [Int.mul_one, Int.zero_mul, Int.add_zero] at h2
  show (plusP (-(n : Int), 2) (0, 1)).1 * 55440 = (n : Int) * (-27720) * (plusP (-(n : Int), 2) (0, 1)).2
  generalize (plusP (-(n : Int), 2) (0, 1)).1 = p at *
  generalize (plusP (-(n : Int), 2) (0, 1)).2 = q at *
  have : p * 55440 = (p * 2) * 27720 := by omega
  rw [this, h2, Int.neg_mul, Int.mul_neg, Int.neg_mul, Int.neg_mul, Int.mul_right_comm]
theorem eul_fold (n : Nat) : ∀ (ms : List Int) (s : Int × Int) (S : Int), (∀ m ∈ ms, 0 < m → m ∣ 27720) → Red s → s.1 * 55440 = (n : Int) * S * s.2 →
    Red (ms.foldl (fun s m => if 0 < m then plusP s ((n : Int), 2 * m) else s) s) ∧
    (ms.foldl (fun s m => if 0 < m then plusP s ((n : Int), 2 * m) else s) s).1 * 55440 = (n : Int) * (ms.foldl (fun s m => if 0 < m then s + 27720 / m else s) S) * (ms.foldl (fun s m => if 0 < m then plusP s ((n : Int), 2 * m) else s) s).2
  | [], s, S, _, hr, hv => ⟨hr, hv⟩
  | m :: ms, s, S, hm, hr, hv => by
    simp only [List.foldl_cons]
    by_cases h0 : 0 < m
    · rw [if_pos h0, if_pos h0]
      obtain ⟨q, hq⟩ := hm m (by simp) h0
      have hq2 : 27720 / m = q := by rw [hq]; exact Int.mul_ediv_cancel_left q (by omega)
      rw [hq2]
      have hp := plus_red (a := s) (b := ((n : Int), 2 * m)) hr.pos (show (0 : Int) < 2 * m by omega)
      refine eul_fold n ms _ _ (fun x hx => hm x (List.mem_cons_of_mem _ hx)) hp.1 ?_
      have h2 := hp.2
      have hpos := hr.pos
      generalize plusP s ((n : Int), 2 * m) = r at *
      obtain ⟨r1, r2⟩ := r
      obtain ⟨s1, s2⟩ := s
      simp only at *
      have hne : s2 * (2 * m) ≠ 0 := by
        have : 0 < s2 * (2 * m) := Int.mul_pos hpos (by omega)
        omega
      refine Int.eq_of_mul_eq_mul_right hne ?_
      have e1 : r1 * 55440 * (s2 * (2 * m)) = (s1 * (2 * m) + ↑n * s2) * r2 * 55440 := by
        rw [Int.mul_right_comm, h2]
      rw [e1]
      clear e1 h2 hp hm hq2 hne hpos hr h0
      grind
    · rw [if_neg h0, if_neg h0]
      exact eul_fold n ms _ _ (fun x hx => hm x (List.mem_cons_of_mem _ hx)) hr hv
theorem eulS_val (n : Nat) (ms : List Int) (h : ∀ m ∈ ms, 0 < m → m ∣ 27720) : Red (eulS n ms) ∧ (eulS n ms).1 * 55440 = (n : Int) * sumS ms * (eulS n ms).2 := by
  obtain ⟨h1, h2⟩ := eulS_nil n
  exact eul_fold n ms _ _ h h1 h2
/-- Both come out the same. -/
theorem eul_same {n : Nat} {ms : List Int} (h : ∀ m ∈ ms, 0 < m → m ∣ 27720) : eulS n ms = low (sumS ms * (n : Int)) 55440 := by
  obtain ⟨h1, h2⟩ := eulS_val n ms h
  obtain ⟨h3, h4⟩ := low_red (n := sumS ms * (n : Int)) (d := 55440) (by decide)
  refine red_uniq h1 h3 ?_
  have : (eulS n ms).1 * 55440 * (low (sumS ms * ↑n) 55440).2 = (low (sumS ms * ↑n) 55440).1 * 55440 * (eulS n ms).2 := by
    rw [h2, h4]
    grind
  have e : ((eulS n ms).1 * (low (sumS ms * ↑n) 55440).2) * 55440 = ((low (sumS ms * ↑n) 55440).1 * (eulS n ms).2) * 55440 := by
    rw [Int.mul_right_comm, this, Int.mul_right_comm]
  exact Int.eq_of_mul_eq_mul_right (by decide) e
end Cov

/- Package cover: a refusal becomes an error (the instances of caught). Printed by caught.py. -/
namespace Go.Proofs.YtfdklmpkienfhaaGreat
set_option linter.unusedSimpArgs false
set_option linter.unusedVariables false
open Go.RowKit

theorem run_assert_refused (e : Int) (w : World) : Sem.run Tryz.prog (Instr.typeAssert (.iface 127 (.int .i64 e)) 20 127 true) w = .ok (.tuple #[.int .i64 e, .bool true]) w := by
  kernel_rfl

set_option maxRecDepth 100000 in
set_option maxHeartbeats 1000000 in
theorem caught_int_panic (pm pe : Nat) (x0 : Value) (y e : Int) (w : World) (hne : pm ≠ pe) (hm : w.heap[pm]? = some (.cells #[x0] 3)) (he : w.heap[pe]? = some (.cells #[.int .i64 y] 39)) :
    CallsD Tryz.prog 62 #[.pointer (some ⟨pm, 0, none⟩), .pointer (some ⟨pe, 0, none⟩)] (.panicking [{ v := refusal e, recovered := false }]) w fun en u' w' =>
      en = .returned (.tuple #[]) ∧ u' = .panicking [{ v := refusal e, recovered := true }] ∧ w'.heap[pm]? = some (.cells #[.int .i64 0] 3) ∧ w'.heap[pe]? = some (.cells #[.int .i64 e] 39) ∧ Only (fun k => k = pm ∨ k = pe ∨ w.heap.size ≤ k) w w' := by
  unfold refusal
  have l0 := (Array.getElem?_eq_some_iff.1 hm).1
  have l1 := (Array.getElem?_eq_some_iff.1 he).1
  have n0 : ¬ pm = pe := hne
  have n1 : ¬ pe = pm := fun h => hne h.symm
  have d0 := cell_of_heap he 0
  have f0 := free_of_heap he 0
  have c0 := cell_of_heap hm 0
  have g0 := free_of_heap hm 0
  simp only [List.getElem?_toArray, List.getElem?_cons_zero, List.getElem?_cons_succ] at d0 f0 c0 g0
  have HM := Lib.hid hm
  have HE := Lib.hid he
  clear hm he
  refine callsD_of_wpS Tryz.func62 rfl fun c₀ cs hu => ?_
  apply wpS_seq
  apply wpS_region
  simp [wpOpsS, go_sem, recoverD, hu, Tryz.ntmps62, Exit.thenS]
  simp only [Array.replicate_succ, Array.replicate_zero, List.push_toArray, List.append_toArray, List.nil_append, List.cons_append, List.setIfInBounds_toArray, List.set_cons_succ, List.set_cons_zero]
  have hta := fun W : World => run_assert_refused e W
  refine wpS_of_wp (show Code.wp Tryz.prog _ _ ⟨#[.pointer (some ⟨pm, 0, none⟩), .pointer (some ⟨pe, 0, none⟩), undef, undef, .iface 127 (.int .i64 e), undef, undef, undef, .iface 127 (.int .i64 e), undef, undef, undef, undef, undef, undef, undef, undef, undef, undef, undef, undef, undef, undef, undef, undef], []⟩ w from ?_)
  go_wp2_with fail
  have hO := (Only.setCell (Only.setCell (Only.refl (fun k => k = pm ∨ k = pe ∨ w.heap.size ≤ k) w) (p := ⟨pm, 0, none⟩) (.inl rfl) (.int .i64 0)) (p := ⟨pe, 0, none⟩) (.inr (.inl rfl)) (.int .i64 e))
  have hm1 : (w.setCell ⟨pm, 0, none⟩ (.int .i64 0)).heap[pm]? = some (.cells #[.int .i64 0] 3) := by
    have h0 := heap_setCell_same w pm 0 _ _ (.int .i64 0) HM.out
    simpa using h0
  have he1 : (w.setCell ⟨pm, 0, none⟩ (.int .i64 0)).heap[pe]? = some (.cells #[.int .i64 y] 39) := by
    rw [heap_setCell_other _ _ _ _ n1]
    exact HE.out
  have hm2 : ((w.setCell ⟨pm, 0, none⟩ (.int .i64 0)).setCell ⟨pe, 0, none⟩ (.int .i64 e)).heap[pm]? = some (.cells #[.int .i64 0] 3) := (heap_setCell_other _ _ _ _ n0).trans hm1
  have he2 : ((w.setCell ⟨pm, 0, none⟩ (.int .i64 0)).setCell ⟨pe, 0, none⟩ (.int .i64 e)).heap[pe]? = some (.cells #[.int .i64 e] 39) := by
    have h := heap_setCell_same (w.setCell ⟨pm, 0, none⟩ (.int .i64 0)) pe 0 _ _ (.int .i64 e) he1
    simpa using h
  exact ⟨rfl, _, rfl, _, by simp [results, Tryz.results62], rfl, rfl, hm2, he2, hO⟩

set_option maxRecDepth 100000 in
theorem caught_int_idle (p q : Addr) (w : World) :
    CallsD Tryz.prog 62 #[.pointer (some p), .pointer (some q)] .returning w fun e u' w' => e = .returned (.tuple #[]) ∧ u' = .returning ∧ w' = w := by
  refine callsD_of_wpS Tryz.func62 rfl fun c₀ cs hu => ?_
  apply wpS_seq
  apply wpS_region
  simp [wpOpsS, go_sem, recoverD, hu, Tryz.ntmps62, Exit.thenS]
  simp only [Array.replicate_succ, Array.replicate_zero, List.push_toArray, List.append_toArray, List.nil_append, List.cons_append, List.setIfInBounds_toArray, List.set_cons_succ, List.set_cons_zero]
  refine wpS_of_wp (show Code.wp Tryz.prog _ _ ⟨#[.pointer (some p), .pointer (some q), undef, undef, .nilIface, undef, undef, undef, .nilIface, undef, undef, undef, undef, undef, undef, undef, undef, undef, undef, undef, undef, undef, undef, undef, undef], []⟩ w from ?_)
  go_wp2_with fail
  refine ⟨rfl, _, ?_, _, by simp [results, Tryz.results62], rfl, rfl, rfl⟩
  cases c₀
  simp_all

set_option maxRecDepth 100000 in
set_option maxHeartbeats 1000000 in
theorem caught_bool_panic (pm pe : Nat) (x0 : Value) (y e : Int) (w : World) (hne : pm ≠ pe) (hm : w.heap[pm]? = some (.cells #[x0] 4)) (he : w.heap[pe]? = some (.cells #[.int .i64 y] 39)) :
    CallsD Tryz.prog 64 #[.pointer (some ⟨pm, 0, none⟩), .pointer (some ⟨pe, 0, none⟩)] (.panicking [{ v := refusal e, recovered := false }]) w fun en u' w' =>
      en = .returned (.tuple #[]) ∧ u' = .panicking [{ v := refusal e, recovered := true }] ∧ w'.heap[pm]? = some (.cells #[.bool false] 4) ∧ w'.heap[pe]? = some (.cells #[.int .i64 e] 39) ∧ Only (fun k => k = pm ∨ k = pe ∨ w.heap.size ≤ k) w w' := by
  unfold refusal
  have l0 := (Array.getElem?_eq_some_iff.1 hm).1
  have l1 := (Array.getElem?_eq_some_iff.1 he).1
  have n0 : ¬ pm = pe := hne
  have n1 : ¬ pe = pm := fun h => hne h.symm
  have d0 := cell_of_heap he 0
  have f0 := free_of_heap he 0
  have c0 := cell_of_heap hm 0
  have g0 := free_of_heap hm 0
  simp only [List.getElem?_toArray, List.getElem?_cons_zero, List.getElem?_cons_succ] at d0 f0 c0 g0
  have HM := Lib.hid hm
  have HE := Lib.hid he
  clear hm he
  refine callsD_of_wpS Tryz.func64 rfl fun c₀ cs hu => ?_
  apply wpS_seq
  apply wpS_region
  simp [wpOpsS, go_sem, recoverD, hu, Tryz.ntmps64, Exit.thenS]
  simp only [Array.replicate_succ, Array.replicate_zero, List.push_toArray, List.append_toArray, List.nil_append, List.cons_append, List.setIfInBounds_toArray, List.set_cons_succ, List.set_cons_zero]
  have hta := fun W : World => run_assert_refused e W
  refine wpS_of_wp (show Code.wp Tryz.prog _ _ ⟨#[.pointer (some ⟨pm, 0, none⟩), .pointer (some ⟨pe, 0, none⟩), undef, undef, .iface 127 (.int .i64 e), undef, undef, undef, .iface 127 (.int .i64 e), undef, undef, undef, undef, undef, undef, undef, undef, undef, undef, undef, undef, undef, undef, undef, undef], []⟩ w from ?_)
  go_wp2_with fail
  have hO := (Only.setCell (Only.setCell (Only.refl (fun k => k = pm ∨ k = pe ∨ w.heap.size ≤ k) w) (p := ⟨pm, 0, none⟩) (.inl rfl) (.bool false)) (p := ⟨pe, 0, none⟩) (.inr (.inl rfl)) (.int .i64 e))
  have hm1 : (w.setCell ⟨pm, 0, none⟩ (.bool false)).heap[pm]? = some (.cells #[.bool false] 4) := by
    have h0 := heap_setCell_same w pm 0 _ _ (.bool false) HM.out
    simpa using h0
  have he1 : (w.setCell ⟨pm, 0, none⟩ (.bool false)).heap[pe]? = some (.cells #[.int .i64 y] 39) := by
    rw [heap_setCell_other _ _ _ _ n1]
    exact HE.out
  have hm2 : ((w.setCell ⟨pm, 0, none⟩ (.bool false)).setCell ⟨pe, 0, none⟩ (.int .i64 e)).heap[pm]? = some (.cells #[.bool false] 4) := (heap_setCell_other _ _ _ _ n0).trans hm1
  have he2 : ((w.setCell ⟨pm, 0, none⟩ (.bool false)).setCell ⟨pe, 0, none⟩ (.int .i64 e)).heap[pe]? = some (.cells #[.int .i64 e] 39) := by
    have h := heap_setCell_same (w.setCell ⟨pm, 0, none⟩ (.bool false)) pe 0 _ _ (.int .i64 e) he1
    simpa using h
  exact ⟨rfl, _, rfl, _, by simp [results, Tryz.results64], rfl, rfl, hm2, he2, hO⟩

set_option maxRecDepth 100000 in
theorem caught_bool_idle (p q : Addr) (w : World) :
    CallsD Tryz.prog 64 #[.pointer (some p), .pointer (some q)] .returning w fun e u' w' => e = .returned (.tuple #[]) ∧ u' = .returning ∧ w' = w := by
  refine callsD_of_wpS Tryz.func64 rfl fun c₀ cs hu => ?_
  apply wpS_seq
  apply wpS_region
  simp [wpOpsS, go_sem, recoverD, hu, Tryz.ntmps64, Exit.thenS]
  simp only [Array.replicate_succ, Array.replicate_zero, List.push_toArray, List.append_toArray, List.nil_append, List.cons_append, List.setIfInBounds_toArray, List.set_cons_succ, List.set_cons_zero]
  refine wpS_of_wp (show Code.wp Tryz.prog _ _ ⟨#[.pointer (some p), .pointer (some q), undef, undef, .nilIface, undef, undef, undef, .nilIface, undef, undef, undef, undef, undef, undef, undef, undef, undef, undef, undef, undef, undef, undef, undef, undef], []⟩ w from ?_)
  go_wp2_with fail
  refine ⟨rfl, _, ?_, _, by simp [results, Tryz.results64], rfl, rfl, rfl⟩
  cases c₀
  simp_all

set_option maxRecDepth 100000 in
set_option maxHeartbeats 1000000 in
theorem caught_unit_panic (pm pe : Nat) (y e : Int) (w : World) (hne : pm ≠ pe) (hm : w.heap[pm]? = some (.cells #[] 107)) (he : w.heap[pe]? = some (.cells #[.int .i64 y] 39)) :
    CallsD Tryz.prog 60 #[.pointer (some ⟨pm, 0, none⟩), .pointer (some ⟨pe, 0, none⟩)] (.panicking [{ v := refusal e, recovered := false }]) w fun en u' w' =>
      en = .returned (.tuple #[]) ∧ u' = .panicking [{ v := refusal e, recovered := true }] ∧ w'.heap[pm]? = some (.cells #[] 107) ∧ w'.heap[pe]? = some (.cells #[.int .i64 e] 39) ∧ Only (fun k => k = pm ∨ k = pe ∨ w.heap.size ≤ k) w w' := by
  unfold refusal
  have l0 := (Array.getElem?_eq_some_iff.1 hm).1
  have l1 := (Array.getElem?_eq_some_iff.1 he).1
  have n0 : ¬ pm = pe := hne
  have n1 : ¬ pe = pm := fun h => hne h.symm
  have d0 := cell_of_heap he 0
  have f0 := free_of_heap he 0
  simp only [List.getElem?_toArray, List.getElem?_cons_zero, List.getElem?_cons_succ] at d0 f0  
  have HM := Lib.hid hm
  have HE := Lib.hid he
  clear hm he
  refine callsD_of_wpS Tryz.func60 rfl fun c₀ cs hu => ?_
  apply wpS_seq
  apply wpS_region
  simp [wpOpsS, go_sem, recoverD, hu, Tryz.ntmps60, Exit.thenS]
  simp only [Array.replicate_succ, Array.replicate_zero, List.push_toArray, List.append_toArray, List.nil_append, List.cons_append, List.setIfInBounds_toArray, List.set_cons_succ, List.set_cons_zero]
  have hta := fun W : World => run_assert_refused e W
  refine wpS_of_wp (show Code.wp Tryz.prog _ _ ⟨#[.pointer (some ⟨pm, 0, none⟩), .pointer (some ⟨pe, 0, none⟩), undef, undef, .iface 127 (.int .i64 e), undef, undef, undef, .iface 127 (.int .i64 e), undef, undef, undef, undef, undef, undef, undef, undef, undef, undef, undef, undef, undef, undef, undef, undef], []⟩ w from ?_)
  go_wp2_with fail
  have hO := (Only.setCell (Only.refl (fun k => k = pm ∨ k = pe ∨ w.heap.size ≤ k) w) (p := ⟨pe, 0, none⟩) (.inr (.inl rfl)) (.int .i64 e))
  have hm1 : w.heap[pm]? = some (.cells #[] 107) := by
    exact HM.out
  have he1 : w.heap[pe]? = some (.cells #[.int .i64 y] 39) := by
    skip
    exact HE.out
  have hm2 : (w.setCell ⟨pe, 0, none⟩ (.int .i64 e)).heap[pm]? = some (.cells #[] 107) := (heap_setCell_other _ _ _ _ n0).trans hm1
  have he2 : (w.setCell ⟨pe, 0, none⟩ (.int .i64 e)).heap[pe]? = some (.cells #[.int .i64 e] 39) := by
    have h := heap_setCell_same w pe 0 _ _ (.int .i64 e) he1
    simpa using h
  refine ⟨rfl, _, rfl, _, by simp [results, Tryz.results60], rfl, rfl, ?_, ?_, ?_⟩
  · exact (heap_alloc_lt _ _ (Array.getElem?_eq_some_iff.1 hm2).1).trans hm2
  · exact (heap_alloc_lt _ _ (Array.getElem?_eq_some_iff.1 he2).1).trans he2
  · exact hO.alloc (fun k hk => .inr (.inr (by simpa using hk))) _

set_option maxRecDepth 100000 in
theorem caught_unit_idle (p q : Addr) (w : World) :
    CallsD Tryz.prog 60 #[.pointer (some p), .pointer (some q)] .returning w fun e u' w' => e = .returned (.tuple #[]) ∧ u' = .returning ∧ w' = w := by
  refine callsD_of_wpS Tryz.func60 rfl fun c₀ cs hu => ?_
  apply wpS_seq
  apply wpS_region
  simp [wpOpsS, go_sem, recoverD, hu, Tryz.ntmps60, Exit.thenS]
  simp only [Array.replicate_succ, Array.replicate_zero, List.push_toArray, List.append_toArray, List.nil_append, List.cons_append, List.setIfInBounds_toArray, List.set_cons_succ, List.set_cons_zero]
  refine wpS_of_wp (show Code.wp Tryz.prog _ _ ⟨#[.pointer (some p), .pointer (some q), undef, undef, .nilIface, undef, undef, undef, .nilIface, undef, undef, undef, undef, undef, undef, undef, undef, undef, undef, undef, undef, undef, undef, undef, undef], []⟩ w from ?_)
  go_wp2_with fail
  refine ⟨rfl, _, ?_, _, by simp [results, Tryz.results60], rfl, rfl, rfl⟩
  cases c₀
  simp_all

set_option maxRecDepth 100000 in
set_option maxHeartbeats 1000000 in
theorem caught_frac_panic (pm pe : Nat) (x0 x1 : Value) (y e : Int) (w : World) (hne : pm ≠ pe) (hm : w.heap[pm]? = some (.cells #[x0, x1] 54)) (he : w.heap[pe]? = some (.cells #[.int .i64 y] 39)) :
    CallsD Tryz.prog 80 #[.pointer (some ⟨pm, 0, none⟩), .pointer (some ⟨pe, 0, none⟩)] (.panicking [{ v := refusal e, recovered := false }]) w fun en u' w' =>
      en = .returned (.tuple #[]) ∧ u' = .panicking [{ v := refusal e, recovered := true }] ∧ w'.heap[pm]? = some (.cells #[.int .i64 0, .int .i64 0] 54) ∧ w'.heap[pe]? = some (.cells #[.int .i64 e] 39) ∧ Only (fun k => k = pm ∨ k = pe ∨ w.heap.size ≤ k) w w' := by
  unfold refusal
  have l0 := (Array.getElem?_eq_some_iff.1 hm).1
  have l1 := (Array.getElem?_eq_some_iff.1 he).1
  have n0 : ¬ pm = pe := hne
  have n1 : ¬ pe = pm := fun h => hne h.symm
  have d0 := cell_of_heap he 0
  have f0 := free_of_heap he 0
  have c0 := cell_of_heap hm 0
  have g0 := free_of_heap hm 0
  have c1 := cell_of_heap hm 1
  have g1 := free_of_heap hm 1
  simp only [List.getElem?_toArray, List.getElem?_cons_zero, List.getElem?_cons_succ] at d0 f0 c0 c1 g0 g1
  have HM := Lib.hid hm
  have HE := Lib.hid he
  clear hm he
  refine callsD_of_wpS Tryz.func80 rfl fun c₀ cs hu => ?_
  apply wpS_seq
  apply wpS_region
  simp [wpOpsS, go_sem, recoverD, hu, Tryz.ntmps80, Exit.thenS]
  simp only [Array.replicate_succ, Array.replicate_zero, List.push_toArray, List.append_toArray, List.nil_append, List.cons_append, List.setIfInBounds_toArray, List.set_cons_succ, List.set_cons_zero]
  have hta := fun W : World => run_assert_refused e W
  refine wpS_of_wp (show Code.wp Tryz.prog _ _ ⟨#[.pointer (some ⟨pm, 0, none⟩), .pointer (some ⟨pe, 0, none⟩), undef, undef, .iface 127 (.int .i64 e), undef, undef, undef, .iface 127 (.int .i64 e), undef, undef, undef, undef, undef, undef, undef, undef, undef, undef, undef, undef, undef, undef, undef, undef], []⟩ w from ?_)
  go_wp2_with fail
  have hO := (Only.setCell (Only.setCell (Only.setCell (Only.refl (fun k => k = pm ∨ k = pe ∨ w.heap.size ≤ k) w) (p := ⟨pm, 0, none⟩) (.inl rfl) (.int .i64 0)) (p := ⟨pm, 1, none⟩) (.inl rfl) (.int .i64 0)) (p := ⟨pe, 0, none⟩) (.inr (.inl rfl)) (.int .i64 e))
  have hm1 : ((w.setCell ⟨pm, 0, none⟩ (.int .i64 0)).setCell ⟨pm, 1, none⟩ (.int .i64 0)).heap[pm]? = some (.cells #[.int .i64 0, .int .i64 0] 54) := by
    have h0 := heap_setCell_same w pm 0 _ _ (.int .i64 0) HM.out
    have h1 := heap_setCell_same (w.setCell ⟨pm, 0, none⟩ (.int .i64 0)) pm 1 _ _ (.int .i64 0) h0
    simpa using h1
  have he1 : ((w.setCell ⟨pm, 0, none⟩ (.int .i64 0)).setCell ⟨pm, 1, none⟩ (.int .i64 0)).heap[pe]? = some (.cells #[.int .i64 y] 39) := by
    rw [heap_setCell_other _ _ _ _ n1, heap_setCell_other _ _ _ _ n1]
    exact HE.out
  have hm2 : (((w.setCell ⟨pm, 0, none⟩ (.int .i64 0)).setCell ⟨pm, 1, none⟩ (.int .i64 0)).setCell ⟨pe, 0, none⟩ (.int .i64 e)).heap[pm]? = some (.cells #[.int .i64 0, .int .i64 0] 54) := (heap_setCell_other _ _ _ _ n0).trans hm1
  have he2 : (((w.setCell ⟨pm, 0, none⟩ (.int .i64 0)).setCell ⟨pm, 1, none⟩ (.int .i64 0)).setCell ⟨pe, 0, none⟩ (.int .i64 e)).heap[pe]? = some (.cells #[.int .i64 e] 39) := by
    have h := heap_setCell_same ((w.setCell ⟨pm, 0, none⟩ (.int .i64 0)).setCell ⟨pm, 1, none⟩ (.int .i64 0)) pe 0 _ _ (.int .i64 e) he1
    simpa using h
  refine ⟨rfl, _, rfl, _, by simp [results, Tryz.results80], rfl, rfl, ?_, ?_, ?_⟩
  · exact (heap_alloc_lt _ _ (Array.getElem?_eq_some_iff.1 hm2).1).trans hm2
  · exact (heap_alloc_lt _ _ (Array.getElem?_eq_some_iff.1 he2).1).trans he2
  · exact hO.alloc (fun k hk => .inr (.inr (by simpa using hk))) _

set_option maxRecDepth 100000 in
theorem caught_frac_idle (p q : Addr) (w : World) :
    CallsD Tryz.prog 80 #[.pointer (some p), .pointer (some q)] .returning w fun e u' w' => e = .returned (.tuple #[]) ∧ u' = .returning ∧ w' = w := by
  refine callsD_of_wpS Tryz.func80 rfl fun c₀ cs hu => ?_
  apply wpS_seq
  apply wpS_region
  simp [wpOpsS, go_sem, recoverD, hu, Tryz.ntmps80, Exit.thenS]
  simp only [Array.replicate_succ, Array.replicate_zero, List.push_toArray, List.append_toArray, List.nil_append, List.cons_append, List.setIfInBounds_toArray, List.set_cons_succ, List.set_cons_zero]
  refine wpS_of_wp (show Code.wp Tryz.prog _ _ ⟨#[.pointer (some p), .pointer (some q), undef, undef, .nilIface, undef, undef, undef, .nilIface, undef, undef, undef, undef, undef, undef, undef, undef, undef, undef, undef, undef, undef, undef, undef, undef], []⟩ w from ?_)
  go_wp2_with fail
  refine ⟨rfl, _, ?_, _, by simp [results, Tryz.results80], rfl, rfl, rfl⟩
  cases c₀
  simp_all

end Go.Proofs.YtfdklmpkienfhaaGreat

/- Package cover: a refusal becomes an error (more instances of caught). Printed by caught.py. -/
namespace Go.Proofs.YtfdklmpkienfhaaGreat
set_option linter.unusedSimpArgs false
set_option linter.unusedVariables false
open Go.RowKit

set_option maxRecDepth 100000 in
set_option maxHeartbeats 1000000 in
theorem caught_acts_panic (pm pe : Nat) (x0 : Value) (y e : Int) (w : World) (hne : pm ≠ pe) (hm : w.heap[pm]? = some (.cells #[x0] 93)) (he : w.heap[pe]? = some (.cells #[.int .i64 y] 39)) :
    CallsD Tryz.prog 111 #[.pointer (some ⟨pm, 0, none⟩), .pointer (some ⟨pe, 0, none⟩)] (.panicking [{ v := refusal e, recovered := false }]) w fun en u' w' =>
      en = .returned (.tuple #[]) ∧ u' = .panicking [{ v := refusal e, recovered := true }] ∧ w'.heap[pm]? = some (.cells #[.slice none 0 0] 93) ∧ w'.heap[pe]? = some (.cells #[.int .i64 e] 39) ∧ Only (fun k => k = pm ∨ k = pe ∨ w.heap.size ≤ k) w w' := by
  unfold refusal
  have l0 := (Array.getElem?_eq_some_iff.1 hm).1
  have l1 := (Array.getElem?_eq_some_iff.1 he).1
  have n0 : ¬ pm = pe := hne
  have n1 : ¬ pe = pm := fun h => hne h.symm
  have d0 := cell_of_heap he 0
  have f0 := free_of_heap he 0
  have c0 := cell_of_heap hm 0
  have g0 := free_of_heap hm 0
  simp only [List.getElem?_toArray, List.getElem?_cons_zero, List.getElem?_cons_succ] at d0 f0 c0 g0
  have HM := Lib.hid hm
  have HE := Lib.hid he
  clear hm he
  refine callsD_of_wpS Tryz.func111 rfl fun c₀ cs hu => ?_
  apply wpS_seq
  apply wpS_region
  simp [wpOpsS, go_sem, recoverD, hu, Tryz.ntmps111, Exit.thenS]
  simp only [Array.replicate_succ, Array.replicate_zero, List.push_toArray, List.append_toArray, List.nil_append, List.cons_append, List.setIfInBounds_toArray, List.set_cons_succ, List.set_cons_zero]
  have hta := fun W : World => run_assert_refused e W
  refine wpS_of_wp (show Code.wp Tryz.prog _ _ ⟨#[.pointer (some ⟨pm, 0, none⟩), .pointer (some ⟨pe, 0, none⟩), undef, undef, .iface 127 (.int .i64 e), undef, undef, undef, .iface 127 (.int .i64 e), undef, undef, undef, undef, undef, undef, undef, undef, undef, undef, undef, undef, undef, undef, undef, undef], []⟩ w from ?_)
  go_wp2_with fail
  have hO := (Only.setCell (Only.setCell (Only.refl (fun k => k = pm ∨ k = pe ∨ w.heap.size ≤ k) w) (p := ⟨pm, 0, none⟩) (.inl rfl) (.slice none 0 0)) (p := ⟨pe, 0, none⟩) (.inr (.inl rfl)) (.int .i64 e))
  have hm1 : (w.setCell ⟨pm, 0, none⟩ (.slice none 0 0)).heap[pm]? = some (.cells #[.slice none 0 0] 93) := by
    have h0 := heap_setCell_same w pm 0 _ _ (.slice none 0 0) HM.out
    simpa using h0
  have he1 : (w.setCell ⟨pm, 0, none⟩ (.slice none 0 0)).heap[pe]? = some (.cells #[.int .i64 y] 39) := by
    rw [heap_setCell_other _ _ _ _ n1]
    exact HE.out
  have hm2 : ((w.setCell ⟨pm, 0, none⟩ (.slice none 0 0)).setCell ⟨pe, 0, none⟩ (.int .i64 e)).heap[pm]? = some (.cells #[.slice none 0 0] 93) := (heap_setCell_other _ _ _ _ n0).trans hm1
  have he2 : ((w.setCell ⟨pm, 0, none⟩ (.slice none 0 0)).setCell ⟨pe, 0, none⟩ (.int .i64 e)).heap[pe]? = some (.cells #[.int .i64 e] 39) := by
    have h := heap_setCell_same (w.setCell ⟨pm, 0, none⟩ (.slice none 0 0)) pe 0 _ _ (.int .i64 e) he1
    simpa using h
  exact ⟨rfl, _, rfl, _, by simp [results, Tryz.results111], rfl, rfl, hm2, he2, hO⟩

set_option maxRecDepth 100000 in
theorem caught_acts_idle (p q : Addr) (w : World) :
    CallsD Tryz.prog 111 #[.pointer (some p), .pointer (some q)] .returning w fun e u' w' => e = .returned (.tuple #[]) ∧ u' = .returning ∧ w' = w := by
  refine callsD_of_wpS Tryz.func111 rfl fun c₀ cs hu => ?_
  apply wpS_seq
  apply wpS_region
  simp [wpOpsS, go_sem, recoverD, hu, Tryz.ntmps111, Exit.thenS]
  simp only [Array.replicate_succ, Array.replicate_zero, List.push_toArray, List.append_toArray, List.nil_append, List.cons_append, List.setIfInBounds_toArray, List.set_cons_succ, List.set_cons_zero]
  refine wpS_of_wp (show Code.wp Tryz.prog _ _ ⟨#[.pointer (some p), .pointer (some q), undef, undef, .nilIface, undef, undef, undef, .nilIface, undef, undef, undef, undef, undef, undef, undef, undef, undef, undef, undef, undef, undef, undef, undef, undef], []⟩ w from ?_)
  go_wp2_with fail
  refine ⟨rfl, _, ?_, _, by simp [results, Tryz.results111], rfl, rfl, rfl⟩
  cases c₀
  simp_all

set_option maxRecDepth 100000 in
set_option maxHeartbeats 1000000 in
theorem caught_paired_panic (pm pe : Nat) (x0 x1 : Value) (y e : Int) (w : World) (hne : pm ≠ pe) (hm : w.heap[pm]? = some (.cells #[x0, x1] 129)) (he : w.heap[pe]? = some (.cells #[.int .i64 y] 39)) :
    CallsD Tryz.prog 73 #[.pointer (some ⟨pm, 0, none⟩), .pointer (some ⟨pe, 0, none⟩)] (.panicking [{ v := refusal e, recovered := false }]) w fun en u' w' =>
      en = .returned (.tuple #[]) ∧ u' = .panicking [{ v := refusal e, recovered := true }] ∧ w'.heap[pm]? = some (.cells #[.slice none 0 0, .slice none 0 0] 129) ∧ w'.heap[pe]? = some (.cells #[.int .i64 e] 39) ∧ Only (fun k => k = pm ∨ k = pe ∨ w.heap.size ≤ k) w w' := by
  unfold refusal
  have l0 := (Array.getElem?_eq_some_iff.1 hm).1
  have l1 := (Array.getElem?_eq_some_iff.1 he).1
  have n0 : ¬ pm = pe := hne
  have n1 : ¬ pe = pm := fun h => hne h.symm
  have d0 := cell_of_heap he 0
  have f0 := free_of_heap he 0
  have c0 := cell_of_heap hm 0
  have g0 := free_of_heap hm 0
  have c1 := cell_of_heap hm 1
  have g1 := free_of_heap hm 1
  simp only [List.getElem?_toArray, List.getElem?_cons_zero, List.getElem?_cons_succ] at d0 f0 c0 c1 g0 g1
  have HM := Lib.hid hm
  have HE := Lib.hid he
  clear hm he
  refine callsD_of_wpS Tryz.func73 rfl fun c₀ cs hu => ?_
  apply wpS_seq
  apply wpS_region
  simp [wpOpsS, go_sem, recoverD, hu, Tryz.ntmps73, Exit.thenS]
  simp only [Array.replicate_succ, Array.replicate_zero, List.push_toArray, List.append_toArray, List.nil_append, List.cons_append, List.setIfInBounds_toArray, List.set_cons_succ, List.set_cons_zero]
  have hta := fun W : World => run_assert_refused e W
  refine wpS_of_wp (show Code.wp Tryz.prog _ _ ⟨#[.pointer (some ⟨pm, 0, none⟩), .pointer (some ⟨pe, 0, none⟩), undef, undef, .iface 127 (.int .i64 e), undef, undef, undef, .iface 127 (.int .i64 e), undef, undef, undef, undef, undef, undef, undef, undef, undef, undef, undef, undef, undef, undef, undef, undef], []⟩ w from ?_)
  go_wp2_with fail
  have hO := (Only.setCell (Only.setCell (Only.setCell (Only.refl (fun k => k = pm ∨ k = pe ∨ w.heap.size ≤ k) w) (p := ⟨pm, 0, none⟩) (.inl rfl) (.slice none 0 0)) (p := ⟨pm, 1, none⟩) (.inl rfl) (.slice none 0 0)) (p := ⟨pe, 0, none⟩) (.inr (.inl rfl)) (.int .i64 e))
  have hm1 : ((w.setCell ⟨pm, 0, none⟩ (.slice none 0 0)).setCell ⟨pm, 1, none⟩ (.slice none 0 0)).heap[pm]? = some (.cells #[.slice none 0 0, .slice none 0 0] 129) := by
    have h0 := heap_setCell_same w pm 0 _ _ (.slice none 0 0) HM.out
    have h1 := heap_setCell_same (w.setCell ⟨pm, 0, none⟩ (.slice none 0 0)) pm 1 _ _ (.slice none 0 0) h0
    simpa using h1
  have he1 : ((w.setCell ⟨pm, 0, none⟩ (.slice none 0 0)).setCell ⟨pm, 1, none⟩ (.slice none 0 0)).heap[pe]? = some (.cells #[.int .i64 y] 39) := by
    rw [heap_setCell_other _ _ _ _ n1, heap_setCell_other _ _ _ _ n1]
    exact HE.out
  have hm2 : (((w.setCell ⟨pm, 0, none⟩ (.slice none 0 0)).setCell ⟨pm, 1, none⟩ (.slice none 0 0)).setCell ⟨pe, 0, none⟩ (.int .i64 e)).heap[pm]? = some (.cells #[.slice none 0 0, .slice none 0 0] 129) := (heap_setCell_other _ _ _ _ n0).trans hm1
  have he2 : (((w.setCell ⟨pm, 0, none⟩ (.slice none 0 0)).setCell ⟨pm, 1, none⟩ (.slice none 0 0)).setCell ⟨pe, 0, none⟩ (.int .i64 e)).heap[pe]? = some (.cells #[.int .i64 e] 39) := by
    have h := heap_setCell_same ((w.setCell ⟨pm, 0, none⟩ (.slice none 0 0)).setCell ⟨pm, 1, none⟩ (.slice none 0 0)) pe 0 _ _ (.int .i64 e) he1
    simpa using h
  refine ⟨rfl, _, rfl, _, by simp [results, Tryz.results73], rfl, rfl, ?_, ?_, ?_⟩
  · exact (heap_alloc_lt _ _ (Array.getElem?_eq_some_iff.1 hm2).1).trans hm2
  · exact (heap_alloc_lt _ _ (Array.getElem?_eq_some_iff.1 he2).1).trans he2
  · exact hO.alloc (fun k hk => .inr (.inr (by simpa using hk))) _

set_option maxRecDepth 100000 in
theorem caught_paired_idle (p q : Addr) (w : World) :
    CallsD Tryz.prog 73 #[.pointer (some p), .pointer (some q)] .returning w fun e u' w' => e = .returned (.tuple #[]) ∧ u' = .returning ∧ w' = w := by
  refine callsD_of_wpS Tryz.func73 rfl fun c₀ cs hu => ?_
  apply wpS_seq
  apply wpS_region
  simp [wpOpsS, go_sem, recoverD, hu, Tryz.ntmps73, Exit.thenS]
  simp only [Array.replicate_succ, Array.replicate_zero, List.push_toArray, List.append_toArray, List.nil_append, List.cons_append, List.setIfInBounds_toArray, List.set_cons_succ, List.set_cons_zero]
  refine wpS_of_wp (show Code.wp Tryz.prog _ _ ⟨#[.pointer (some p), .pointer (some q), undef, undef, .nilIface, undef, undef, undef, .nilIface, undef, undef, undef, undef, undef, undef, undef, undef, undef, undef, undef, undef, undef, undef, undef, undef], []⟩ w from ?_)
  go_wp2_with fail
  refine ⟨rfl, _, ?_, _, by simp [results, Tryz.results73], rfl, rfl, rfl⟩
  cases c₀
  simp_all

end Go.Proofs.YtfdklmpkienfhaaGreat

/- Package cover: Check, Lead, Has. -/
namespace Go.Proofs.YtfdklmpkienfhaaGreat
set_option linter.unusedSimpArgs false
set_option linter.unusedVariables false
open Go.RowKit

theorem alloc4 (w : World) (o0 o1 o2 o3 : Obj) : ((((w.alloc o0).alloc o1).alloc o2).alloc o3).heap.size = w.heap.size + 4 ∧ Below w.heap.size w ((((w.alloc o0).alloc o1).alloc o2).alloc o3) ∧
    ((((w.alloc o0).alloc o1).alloc o2).alloc o3).heap[w.heap.size]? = some o0 ∧ ((((w.alloc o0).alloc o1).alloc o2).alloc o3).heap[w.heap.size + 1]? = some o1 ∧
    ((((w.alloc o0).alloc o1).alloc o2).alloc o3).heap[w.heap.size + 2]? = some o2 ∧ ((((w.alloc o0).alloc o1).alloc o2).alloc o3).heap[w.heap.size + 3]? = some o3 := by
  refine ⟨by simp, ((((Below.refl _ _).alloc (Nat.le_refl _) _).alloc (by simp) _).alloc (by simp; omega) _).alloc (by simp; omega) _, ?_, ?_, ?_, ?_⟩
  · rw [Below.heap_alloc _ _ _ (by simp; try omega), Below.heap_alloc _ _ _ (by simp; try omega), Below.heap_alloc _ _ _ (by simp)]; exact alloc_heap_new w _
  · rw [Below.heap_alloc _ _ _ (by simp; try omega), Below.heap_alloc _ _ _ (by simp)]
    have := alloc_heap_new (w.alloc o0) o1
    rwa [World.size_alloc] at this
  · rw [Below.heap_alloc _ _ _ (by simp)]
    have := alloc_heap_new ((w.alloc o0).alloc o1) o2
    rwa [World.size_alloc, World.size_alloc] at this
  · have := alloc_heap_new (((w.alloc o0).alloc o1).alloc o2) o3
    rwa [World.size_alloc, World.size_alloc, World.size_alloc] at this

set_option maxRecDepth 100000 in
set_option maxHeartbeats 2000000 in
theorem cover_Check (a b c : Int) (V : Nat → Value) (A : Nat → List Int) (w : World) (hA : AR w.heap.size w V A) (hlen : ∀ i, i < 3 → (A i).length ≤ 1000000000) :
    Calls Tryz.prog 15 #[ordersV a b c, actV V] w fun e w' => e = .returned (.int .i64 (actErr a b c A)) ∧ Below w.heap.size w w' := by
  have HCH := Lib.hid (fun W hA => cover_checked a b c V A W hA hlen)
  obtain ⟨hs1, hB1, q0, q1, q2, q3⟩ := alloc4 w (.cells #[.int .i64 a, .int .i64 b, .int .i64 c] 23) (.cells #[V 0, V 1, V 2] 27) (.cells #[.int .i64 0] 39) (.cells #[] 107)
  obtain ⟨W1, hW1⟩ : ∃ W1, W1 = (((w.alloc (.cells #[.int .i64 a, .int .i64 b, .int .i64 c] 23)).alloc (.cells #[V 0, V 1, V 2] 27)).alloc (.cells #[.int .i64 0] 39)).alloc (.cells #[] 107) := ⟨_, rfl⟩
  rw [← hW1] at hs1 hB1 q0 q1 q2 q3
  have HQ0 := Lib.hid q0; have HQ1 := Lib.hid q1; have HQ2 := Lib.hid q2; have HQ3 := Lib.hid q3
  have HS1 := Lib.hid hs1; have HB1 := Lib.hid hB1
  have HAW := Lib.hid (show AR W1.heap.size W1 V A from fun i hi => ((hA i hi).below HB1.out).more HB1.out.size)
  clear hA hlen q0 q1 q2 q3 hs1 hB1
  obtain ⟨er, her⟩ : ∃ er, er = actErr a b c A := ⟨_, rfl⟩
  rw [← her] at HCH ⊢
  clear her
  unfold ordersV actV at *
  go_enter_defers Tryz.func15, Tryz.ntmps15
  go_upto_region 2 with fail
  rw [← hW1]
  clear hW1
  have k0 := cell_of_heap HQ0.out 0
  have k1 := cell_of_heap HQ0.out 1
  have k2 := cell_of_heap HQ0.out 2
  have p0 := box_at HQ1.out (i := 0) (by omega)
  have p1 := box_at HQ1.out (i := 1) (by omega)
  have p2 := box_at HQ1.out (i := 2) (by omega)
  simp only [List.getElem?_toArray, List.getElem?_cons_zero, List.getElem?_cons_succ] at k0 k1 k2
  go_wp2_with fail
  refine (HCH.out _ HAW.out).mono ?_
  rintro e w1 ⟨hcase, hB⟩
  have HB2 := Lib.hid hB
  clear hB k0 k1 k2 p0 p1 p2
  have hq2 := (HB2.out.block _ (show w.heap.size + 2 < W1.heap.size by have := HS1.out; omega)).trans HQ2.out
  have hq3 := (HB2.out.block _ (show w.heap.size + 3 < W1.heap.size by have := HS1.out; omega)).trans HQ3.out
  have HQ22 := Lib.hid hq2
  have HQ33 := Lib.hid hq3
  rcases hcase with ⟨rfl, rfl⟩ | ⟨hz, rfl⟩
  · have c1 := cell_of_heap hq2 0
    have f1 := free_of_heap hq2 0
    simp only [List.getElem?_toArray, List.getElem?_cons_zero, List.getElem?_cons_succ] at c1 f1
    clear hq2 hq3
    go_wp2_with fail
    refine leaves_cons (f := 60) (args := #[.pointer (some ⟨w.heap.size + 3, 0, none⟩), .pointer (some ⟨w.heap.size + 2, 0, none⟩)]) (by simp) (by simp [go_sem]) ?_
    refine (caught_unit_idle ⟨w.heap.size + 3, 0, none⟩ ⟨w.heap.size + 2, 0, none⟩ _).mono ?_
    rintro e u' w'' ⟨rfl, rfl, rfl⟩
    have hcs : (w1.setCell ⟨w.heap.size + 2, 0, none⟩ (.int .i64 0)).cell? ⟨w.heap.size + 2, 0, none⟩ = some (.int .i64 0) := World.cell?_setCell_same _ _ _ c1
    simp [Leaves, settle, results, Tryz.results15, go_sem, hcs]
    exact (HB1.out.trans (HB2.out.mono HB1.out.size)).setCell (by dsimp only; omega) _
  · clear hq2 hq3
    go_wp2_with fail
    refine leaves_cons (f := 60) (args := #[.pointer (some ⟨w.heap.size + 3, 0, none⟩), .pointer (some ⟨w.heap.size + 2, 0, none⟩)]) (by simp) (by simp [go_sem]) ?_
    refine (caught_unit_panic (w.heap.size + 3) (w.heap.size + 2) 0 er w1 (by omega) HQ33.out HQ22.out).mono ?_
    rintro e u' w'' ⟨rfl, rfl, h0, h1, hO⟩
    have hcs := cell_of_heap h1 0
    simp only [List.getElem?_toArray, List.getElem?_cons_zero, List.getElem?_cons_succ] at hcs
    simp [Leaves, settle, results, Tryz.results15, go_sem, hcs]
    exact (HB1.out.trans (HB2.out.mono HB1.out.size)).trans (hO.below (fun k hk => by have := HS1.out; have := HB2.out.size; omega))

set_option maxRecDepth 100000 in
set_option maxHeartbeats 2000000 in
theorem cover_Lead (a b c : Int) (V : Nat → Value) (A : Nat → List Int) (p : Int) (l : List UInt8) (w : World) (hA : AR w.heap.size w V A) (hlen : ∀ i, i < 3 → (A i).length ≤ 1000000000) (hl : l.length ≤ 1000000000) :
    Calls Tryz.prog 16 #[ordersV a b c, actV V, .int .i64 p, str l] w fun e w' => e = .returned (.tuple #[.int .i64 (if ledErr a b c A p l = 0 then ((Cov.ledP (letters A) p.toNat l : Nat) : Int) else 0), .int .i64 (ledErr a b c A p l)]) ∧ Below w.heap.size w w' := by
  have HCH := Lib.hid (fun W hA => cover_led a b c V A p l W hA hlen hl)
  obtain ⟨hs1, hB1, q0, q1, q2, q3⟩ := alloc4 w (.cells #[.int .i64 a, .int .i64 b, .int .i64 c] 23) (.cells #[V 0, V 1, V 2] 27) (.cells #[.int .i64 0] 3) (.cells #[.int .i64 0] 39)
  obtain ⟨W1, hW1⟩ : ∃ W1, W1 = (((w.alloc (.cells #[.int .i64 a, .int .i64 b, .int .i64 c] 23)).alloc (.cells #[V 0, V 1, V 2] 27)).alloc (.cells #[.int .i64 0] 3)).alloc (.cells #[.int .i64 0] 39) := ⟨_, rfl⟩
  rw [← hW1] at hs1 hB1 q0 q1 q2 q3
  have HQ0 := Lib.hid q0; have HQ1 := Lib.hid q1; have HQ2 := Lib.hid q2; have HQ3 := Lib.hid q3
  have HS1 := Lib.hid hs1; have HB1 := Lib.hid hB1
  have HAW := Lib.hid (show AR W1.heap.size W1 V A from fun i hi => ((hA i hi).below HB1.out).more HB1.out.size)
  clear hA hlen hl q0 q1 q2 q3 hs1 hB1
  obtain ⟨er, her⟩ : ∃ er, er = ledErr a b c A p l := ⟨_, rfl⟩
  obtain ⟨y, hy⟩ : ∃ y, y = Cov.ledP (letters A) p.toNat l := ⟨_, rfl⟩
  rw [← her, ← hy] at HCH ⊢
  clear her hy
  unfold ordersV actV str at *
  go_enter_defers Tryz.func16, Tryz.ntmps16
  go_upto_region 1 with fail
  rw [← hW1]
  clear hW1
  have k0 := cell_of_heap HQ0.out 0
  have k1 := cell_of_heap HQ0.out 1
  have k2 := cell_of_heap HQ0.out 2
  have p0 := box_at HQ1.out (i := 0) (by omega)
  have p1 := box_at HQ1.out (i := 1) (by omega)
  have p2 := box_at HQ1.out (i := 2) (by omega)
  simp only [List.getElem?_toArray, List.getElem?_cons_zero, List.getElem?_cons_succ] at k0 k1 k2
  go_wp2_with fail
  refine (HCH.out _ HAW.out).mono ?_
  rintro e w1 ⟨hcase, hB⟩
  have HB2 := Lib.hid hB
  clear hB k0 k1 k2 p0 p1 p2
  have hq2 := (HB2.out.block _ (show w.heap.size + 2 < W1.heap.size by have := HS1.out; omega)).trans HQ2.out
  have hq3 := (HB2.out.block _ (show w.heap.size + 3 < W1.heap.size by have := HS1.out; omega)).trans HQ3.out
  have HQ22 := Lib.hid hq2
  have HQ33 := Lib.hid hq3
  rcases hcase with ⟨rfl, rfl⟩ | ⟨hz, rfl⟩
  · have c1 := cell_of_heap hq2 0
    have f1 := free_of_heap hq2 0
    have c2 := cell_of_heap hq3 0
    have f2 := free_of_heap hq3 0
    simp only [List.getElem?_toArray, List.getElem?_cons_zero, List.getElem?_cons_succ] at c1 f1 c2 f2
    clear hq2 hq3
    go_wp2_with fail
    refine leaves_cons (f := 62) (args := #[.pointer (some ⟨w.heap.size + 2, 0, none⟩), .pointer (some ⟨w.heap.size + 3, 0, none⟩)]) (by simp) (by simp [go_sem]) ?_
    refine (caught_int_idle ⟨w.heap.size + 2, 0, none⟩ ⟨w.heap.size + 3, 0, none⟩ _).mono ?_
    rintro e u' w'' ⟨rfl, rfl, rfl⟩
    have h2 := heap_setCell_same w1 (w.heap.size + 2) 0 _ _ (.int .i64 (y : Int)) HQ22.out
    have h3 := (heap_setCell_other w1 ⟨w.heap.size + 2, 0, none⟩ (w.heap.size + 3) (.int .i64 (y : Int)) (by simp)).trans HQ33.out
    have d3 := heap_setCell_same _ (w.heap.size + 3) 0 _ _ (.int .i64 0) h3
    have d2 := (heap_setCell_other _ ⟨w.heap.size + 3, 0, none⟩ (w.heap.size + 2) (.int .i64 0) (by simp)).trans h2
    have e2 := cell_of_heap d2 0
    have e3 := cell_of_heap d3 0
    simp at e2 e3
    simp [Leaves, settle, results, Tryz.results16, go_sem, e2, e3]
    exact ((HB1.out.trans (HB2.out.mono HB1.out.size)).setCell (by dsimp only; omega) _).setCell (by dsimp only; omega) _
  · clear hq2 hq3
    have HZ := Lib.hid hz
    clear hz
    go_wp2_with fail
    refine leaves_cons (f := 62) (args := #[.pointer (some ⟨w.heap.size + 2, 0, none⟩), .pointer (some ⟨w.heap.size + 3, 0, none⟩)]) (by simp) (by simp [go_sem]) ?_
    refine (caught_int_panic (w.heap.size + 2) (w.heap.size + 3) _ 0 er w1 (by omega) HQ22.out HQ33.out).mono ?_
    rintro e u' w'' ⟨rfl, rfl, h0, h1, hO⟩
    have e2 := cell_of_heap h0 0
    have e3 := cell_of_heap h1 0
    simp at e2 e3
    have hz := HZ.out
    simp [Leaves, settle, results, Tryz.results16, go_sem, e2, e3, hz]
    exact (HB1.out.trans (HB2.out.mono HB1.out.size)).trans (hO.below (fun k hk => by have := HS1.out; have := HB2.out.size; omega))

set_option maxRecDepth 100000 in
set_option maxHeartbeats 2000000 in
theorem cover_Has (a b c : Int) (V : Nat → Value) (A : Nat → List Int) (p : Int) (l : List UInt8) (w : World) (hA : AR w.heap.size w V A) (hlen : ∀ i, i < 3 → (A i).length ≤ 1000000000) (hl : l.length ≤ 1000000000) :
    Calls Tryz.prog 17 #[ordersV a b c, actV V, .int .i64 p, str l] w fun e w' => e = .returned (.tuple #[.bool (if ledErr a b c A p l = 0 then decide (((Cov.ledP (letters A) p.toNat l : Nat) : Int) = p) else false), .int .i64 (ledErr a b c A p l)]) ∧ Below w.heap.size w w' := by
  have HCH := Lib.hid (fun W hA => cover_led a b c V A p l W hA hlen hl)
  obtain ⟨hs1, hB1, q0, q1, q2, q3⟩ := alloc4 w (.cells #[.int .i64 a, .int .i64 b, .int .i64 c] 23) (.cells #[V 0, V 1, V 2] 27) (.cells #[.bool false] 4) (.cells #[.int .i64 0] 39)
  obtain ⟨W1, hW1⟩ : ∃ W1, W1 = (((w.alloc (.cells #[.int .i64 a, .int .i64 b, .int .i64 c] 23)).alloc (.cells #[V 0, V 1, V 2] 27)).alloc (.cells #[.bool false] 4)).alloc (.cells #[.int .i64 0] 39) := ⟨_, rfl⟩
  rw [← hW1] at hs1 hB1 q0 q1 q2 q3
  have HQ0 := Lib.hid q0; have HQ1 := Lib.hid q1; have HQ2 := Lib.hid q2; have HQ3 := Lib.hid q3
  have HS1 := Lib.hid hs1; have HB1 := Lib.hid hB1
  have HAW := Lib.hid (show AR W1.heap.size W1 V A from fun i hi => ((hA i hi).below HB1.out).more HB1.out.size)
  clear hA hlen hl q0 q1 q2 q3 hs1 hB1
  obtain ⟨er, her⟩ : ∃ er, er = ledErr a b c A p l := ⟨_, rfl⟩
  obtain ⟨y, hy⟩ : ∃ y, y = Cov.ledP (letters A) p.toNat l := ⟨_, rfl⟩
  rw [← her, ← hy] at HCH ⊢
  clear her hy
  obtain ⟨bb, hbb⟩ : ∃ bb, bb = decide ((y : Int) = p) := ⟨_, rfl⟩
  rw [← hbb]
  have HBB := Lib.hid (show ((y : Int) == p) = bb by rw [hbb]; rfl)
  clear hbb
  unfold ordersV actV str at *
  go_enter_defers Tryz.func17, Tryz.ntmps17
  go_upto_region 1 with fail
  rw [← hW1]
  clear hW1
  have k0 := cell_of_heap HQ0.out 0
  have k1 := cell_of_heap HQ0.out 1
  have k2 := cell_of_heap HQ0.out 2
  have p0 := box_at HQ1.out (i := 0) (by omega)
  have p1 := box_at HQ1.out (i := 1) (by omega)
  have p2 := box_at HQ1.out (i := 2) (by omega)
  simp only [List.getElem?_toArray, List.getElem?_cons_zero, List.getElem?_cons_succ] at k0 k1 k2
  go_wp2_with fail
  refine (HCH.out _ HAW.out).mono ?_
  rintro e w1 ⟨hcase, hB⟩
  have HB2 := Lib.hid hB
  clear hB k0 k1 k2 p0 p1 p2
  have hq2 := (HB2.out.block _ (show w.heap.size + 2 < W1.heap.size by have := HS1.out; omega)).trans HQ2.out
  have hq3 := (HB2.out.block _ (show w.heap.size + 3 < W1.heap.size by have := HS1.out; omega)).trans HQ3.out
  have HQ22 := Lib.hid hq2
  have HQ33 := Lib.hid hq3
  rcases hcase with ⟨rfl, rfl⟩ | ⟨hz, rfl⟩
  · have c1 := cell_of_heap hq2 0
    have f1 := free_of_heap hq2 0
    have c2 := cell_of_heap hq3 0
    have f2 := free_of_heap hq3 0
    simp only [List.getElem?_toArray, List.getElem?_cons_zero, List.getElem?_cons_succ] at c1 f1 c2 f2
    clear hq2 hq3
    have hbe := HBB.out
    go_wp2_with fail
    refine leaves_cons (f := 64) (args := #[.pointer (some ⟨w.heap.size + 2, 0, none⟩), .pointer (some ⟨w.heap.size + 3, 0, none⟩)]) (by simp) (by simp [go_sem]) ?_
    refine (caught_bool_idle ⟨w.heap.size + 2, 0, none⟩ ⟨w.heap.size + 3, 0, none⟩ _).mono ?_
    rintro e u' w'' ⟨rfl, rfl, rfl⟩
    have h2 := heap_setCell_same w1 (w.heap.size + 2) 0 _ _ (.bool bb) HQ22.out
    have h3 := (heap_setCell_other w1 ⟨w.heap.size + 2, 0, none⟩ (w.heap.size + 3) (.bool bb) (by simp)).trans HQ33.out
    have d3 := heap_setCell_same _ (w.heap.size + 3) 0 _ _ (.int .i64 0) h3
    have d2 := (heap_setCell_other _ ⟨w.heap.size + 3, 0, none⟩ (w.heap.size + 2) (.int .i64 0) (by simp)).trans h2
    have e2 := cell_of_heap d2 0
    have e3 := cell_of_heap d3 0
    simp at e2 e3
    simp [Leaves, settle, results, Tryz.results17, go_sem, e2, e3]
    exact ((HB1.out.trans (HB2.out.mono HB1.out.size)).setCell (by dsimp only; omega) _).setCell (by dsimp only; omega) _
  · clear hq2 hq3
    have HZ := Lib.hid hz
    clear hz
    go_wp2_with fail
    refine leaves_cons (f := 64) (args := #[.pointer (some ⟨w.heap.size + 2, 0, none⟩), .pointer (some ⟨w.heap.size + 3, 0, none⟩)]) (by simp) (by simp [go_sem]) ?_
    refine (caught_bool_panic (w.heap.size + 2) (w.heap.size + 3) _ 0 er w1 (by omega) HQ22.out HQ33.out).mono ?_
    rintro e u' w'' ⟨rfl, rfl, h0, h1, hO⟩
    have e2 := cell_of_heap h0 0
    have e3 := cell_of_heap h1 0
    simp at e2 e3
    have hz := HZ.out
    simp [Leaves, settle, results, Tryz.results17, go_sem, e2, e3, hz]
    exact (HB1.out.trans (HB2.out.mono HB1.out.size)).trans (hO.below (fun k hk => by have := HS1.out; have := HB2.out.size; omega))
end Go.Proofs.YtfdklmpkienfhaaGreat

/- Package cover: sums of fractions, Euler's number; the specification's fractions. -/
namespace Go.Proofs.YtfdklmpkienfhaaGreat
set_option linter.unusedSimpArgs false
set_option linter.unusedVariables false
open Go.RowKit

theorem gcd_tmod (p q : Int) : Int.gcd q (p.tmod q) = Int.gcd p q := by
  unfold Int.gcd
  rw [Int.natAbs_tmod, Nat.gcd_comm p.natAbs, Nat.gcd_rec q.natAbs p.natAbs, Nat.gcd_comm]

set_option maxRecDepth 100000 in
set_option maxHeartbeats 1000000 in
theorem cover_divisor (a b : Int) (w : World) (ha : a.natAbs ≤ 1000000000000) (hb : b.natAbs ≤ 1000000000000) :
    Calls Tryz.prog 130 #[.int .i64 a, .int .i64 b] w fun e w' => e = .returned (.int .i64 (Int.gcd a b : Nat)) ∧ Below w.heap.size w w' := by
  go_enter Tryz.func130, Tryz.ntmps130
  go_wp2_with fail
  go_loopw [0, 1] (fun x y wr => ∃ (p q : Int), x = .int .i64 p ∧ y = .int .i64 q ∧ Hid (Int.gcd p q = Int.gcd a b) ∧ p.natAbs ≤ 1000000000000 ∧ q.natAbs ≤ 1000000000000 ∧ Hid (Below w.heap.size w wr)) (fun _ y _ => (intOf y).natAbs)
  case atStart => exact ⟨a, b, rfl, rfl, Lib.hid rfl, ha, hb, Lib.hid (Below.refl _ _)⟩
  case round =>
    obtain ⟨p, q, rfl, rfl, HG, hp, hq, HB⟩ := hrel
    have hp1 : p ≤ 1000000000000 := by omega
    have hp2 : -1000000000000 ≤ p := by omega
    by_cases hz : q = 0
    · subst hz
      by_cases h0 : 0 < p
      · go_wp2_with fail
        all_goals go_ret
        all_goals exact ⟨ret_int (by rw [← HG.out, Int.gcd_zero_right]; omega), HB.out⟩
      · go_wp2_with fail
        all_goals go_ret
        all_goals exact ⟨ret_int (by rw [← HG.out, Int.gcd_zero_right]; omega), HB.out⟩
    · have h1 : (q != 0) = true := by rw [bne_iff_ne]; exact hz
      have hm1 : (p.tmod q).natAbs ≤ p.natAbs := by rw [Int.natAbs_tmod]; exact Nat.mod_le _ _
      have hm2 : p.tmod q ≤ 1000000000000 := by omega
      have hm3 : -1000000000000 ≤ p.tmod q := by omega
      have HZ := Lib.hid hz
      go_wp2_with fail
      go_quiet (fail)
      go_wp2_with fail
      go_roundw
      case rel => exact ⟨q, p.tmod q, rfl, rfl, Lib.hid (by rw [gcd_tmod, HG.out]), hq, by omega, Lib.hid (below_drewN HB.out _)⟩
      case measure =>
        simp [intOf]
        exact Nat.mod_lt _ (by omega)

theorem alloc3 (w : World) (o0 o1 o2 : Obj) : (((w.alloc o0).alloc o1).alloc o2).heap.size = w.heap.size + 3 ∧ Below w.heap.size w (((w.alloc o0).alloc o1).alloc o2) ∧
    (((w.alloc o0).alloc o1).alloc o2).heap[w.heap.size]? = some o0 ∧ (((w.alloc o0).alloc o1).alloc o2).heap[w.heap.size + 1]? = some o1 ∧ (((w.alloc o0).alloc o1).alloc o2).heap[w.heap.size + 2]? = some o2 := by
  refine ⟨by simp, (((Below.refl _ _).alloc (Nat.le_refl _) _).alloc (by simp) _).alloc (by simp; omega) _, ?_, ?_, ?_⟩
  · rw [Below.heap_alloc _ _ _ (by simp; try omega), Below.heap_alloc _ _ _ (by simp)]; exact alloc_heap_new w _
  · rw [Below.heap_alloc _ _ _ (by simp; try omega)]
    have := alloc_heap_new (w.alloc o0) o1
    rwa [World.size_alloc] at this
  · have := alloc_heap_new ((w.alloc o0).alloc o1) o2
    rwa [World.size_alloc, World.size_alloc] at this
theorem abs_bound {x : Int} {m : Nat} (h : x.natAbs ≤ m) : x ≤ m ∧ -(m : Int) ≤ x := by omega
theorem mul_bound {x y : Int} (hx : x ≤ 1000000 ∧ -1000000 ≤ x) (hy : y ≤ 100000 ∧ -100000 ≤ y) : x * y ≤ 100000000000 ∧ -100000000000 ≤ x * y := by
  have h : (x * y).natAbs ≤ 1000000 * 100000 := by
    rw [Int.natAbs_mul]
    exact Nat.mul_le_mul (by omega) (by omega)
  omega

open Cov (plusP)

theorem tdiv_gcd {n d : Int} : n.tdiv (Int.gcd n d : Int) = n / (Int.gcd n d : Int) := Int.tdiv_eq_ediv_of_dvd (Int.gcd_dvd_left n d)
theorem tdiv_gcd' {n d : Int} : d.tdiv (Int.gcd n d : Int) = d / (Int.gcd n d : Int) := Int.tdiv_eq_ediv_of_dvd (Int.gcd_dvd_right n d)

set_option maxRecDepth 100000 in
set_option maxHeartbeats 2000000 in
theorem cover_plus (x1 x2 y1 y2 : Int) (w : World) (h1 : x1.natAbs ≤ 1000000) (h2 : 0 < x2 ∧ x2 ≤ 100000) (h3 : y1.natAbs ≤ 1000000) (h4 : 0 < y2 ∧ y2 ≤ 100000) :
    Calls Tryz.prog 81 #[.agg #[.int .i64 x1, .int .i64 x2], .agg #[.int .i64 y1, .int .i64 y2]] w fun e w' => e = .returned (.agg #[.int .i64 (plusP (x1, x2) (y1, y2)).1, .int .i64 (plusP (x1, x2) (y1, y2)).2]) ∧ Below w.heap.size w w' := by
  have hx1 := abs_bound h1
  have hy1 := abs_bound h3
  have hm1 := mul_bound (x := x1) (y := y2) hx1 ⟨by omega, by omega⟩
  have hm2 := mul_bound (x := y1) (y := x2) hy1 ⟨by omega, by omega⟩
  have hm3 := mul_bound (x := x2) (y := y2) ⟨by omega, by omega⟩ ⟨by omega, by omega⟩
  have hpos : 0 < x2 * y2 := Int.mul_pos h2.1 h4.1
  obtain ⟨u, hu⟩ : ∃ u, u = x1 * y2 := ⟨_, rfl⟩
  obtain ⟨v, hv⟩ : ∃ v, v = y1 * x2 := ⟨_, rfl⟩
  obtain ⟨d, hd⟩ : ∃ d, d = x2 * y2 := ⟨_, rfl⟩
  have hplus : plusP (x1, x2) (y1, y2) = ((u + v) / (Int.gcd (u + v) d : Int), d / (Int.gcd (u + v) d : Int)) := by rw [hu, hv, hd]; rfl
  rw [hplus]
  rw [← hu] at hm1
  rw [← hv] at hm2
  rw [← hd] at hm3 hpos
  obtain ⟨s, hs⟩ : ∃ s, s = u + v := ⟨_, rfl⟩
  rw [← hs]
  have hsb : s.natAbs ≤ 1000000000000 := by omega
  have hdb : d.natAbs ≤ 1000000000000 := by omega
  have HDIV := Lib.hid (fun W => cover_divisor s d W hsb hdb)
  obtain ⟨g, hg⟩ : ∃ g : Nat, g = Int.gcd s d := ⟨_, rfl⟩
  have hgp : 0 < g := by rw [hg]; exact Int.gcd_pos_of_ne_zero_right s (by omega)
  have e1 : s.tdiv (g : Int) = s / (g : Int) := by rw [hg]; exact tdiv_gcd
  have e2 : d.tdiv (g : Int) = d / (g : Int) := by rw [hg]; exact tdiv_gcd'
  rw [← hg] at HDIV ⊢
  obtain ⟨r1, hr1⟩ : ∃ r1, r1 = s / (g : Int) := ⟨_, rfl⟩
  obtain ⟨r2, hr2⟩ : ∃ r2, r2 = d / (g : Int) := ⟨_, rfl⟩
  rw [← hr1] at e1 ⊢
  rw [← hr2] at e2 ⊢
  have b1 : r1 ≤ 1000000000000 ∧ -1000000000000 ≤ r1 := by
    have : (s.tdiv (g : Int)).natAbs ≤ s.natAbs := by rw [Int.natAbs_tdiv]; exact Nat.div_le_self _ _
    rw [e1] at this; omega
  have b2 : r2 ≤ 1000000000000 ∧ -1000000000000 ≤ r2 := by
    have : (d.tdiv (g : Int)).natAbs ≤ d.natAbs := by rw [Int.natAbs_tdiv]; exact Nat.div_le_self _ _
    rw [e2] at this; omega
  obtain ⟨b11, b12⟩ := b1
  obtain ⟨b21, b22⟩ := b2
  obtain ⟨m11, m12⟩ := hm1
  obtain ⟨m21, m22⟩ := hm2
  obtain ⟨m31, m32⟩ := hm3
  have hgn : ¬ (g : Int) = 0 := by omega
  have k1 : x1 * y2 = u := hu.symm
  have k2 : y1 * x2 = v := hv.symm
  have k3 : x2 * y2 = d := hd.symm
  have k4 : u + v = s := hs.symm
  have s1 : s ≤ 1000000000000 := by omega
  have s2 : -1000000000000 ≤ s := by omega
  obtain ⟨hs1, hB1, q0, q1, q2⟩ := alloc3 w (.cells #[.int .i64 x1, .int .i64 x2] 145) (.cells #[.int .i64 y1, .int .i64 y2] 145) (.cells #[.int .i64 0, .int .i64 0] 145)
  obtain ⟨W1, hW1⟩ : ∃ W1, W1 = ((w.alloc (.cells #[.int .i64 x1, .int .i64 x2] 145)).alloc (.cells #[.int .i64 y1, .int .i64 y2] 145)).alloc (.cells #[.int .i64 0, .int .i64 0] 145) := ⟨_, rfl⟩
  rw [← hW1] at hs1 hB1 q0 q1 q2
  have HQ2 := Lib.hid q2
  have HS1 := Lib.hid hs1; have HB1 := Lib.hid hB1
  have HE := Lib.hid (And.intro e1 e2)
  have c0 := cell_of_heap q0 0
  have c1 := cell_of_heap q0 1
  have c2 := cell_of_heap q1 0
  have c3 := cell_of_heap q1 1
  simp only [List.getElem?_toArray, List.getElem?_cons_zero, List.getElem?_cons_succ] at c0 c1 c2 c3
  clear h1 h2 h3 h4 hx1 hy1 hu hv hd hs hplus hpos hg hr1 hr2 hsb hdb hs1 hB1 q0 q1 q2
  go_enter Tryz.func81, Tryz.ntmps81
  go_upto_region 1 with fail
  rw [← hW1]
  clear hW1
  go_region
  all_goals go_wp2_with fail
  refine (HDIV.out _).mono ?_
  rintro e w1 ⟨rfl, hB⟩
  have HB2 := Lib.hid (show Below W1.heap.size W1 w1 from ((Below.refl _ _).drew).trans hB)
  clear hB c0 c1 c2 c3 k1 k2 k3 k4
  have q2 := (HB2.out.block _ (show w.heap.size + 2 < W1.heap.size by have := HS1.out; omega)).trans HQ2.out
  have HQ22 := Lib.hid q2
  have t0 := cell_of_heap q2 0
  have t1 := cell_of_heap q2 1
  have f0 := free_of_heap q2 0
  have f1 := free_of_heap q2 1
  simp only [List.getElem?_toArray, List.getElem?_cons_zero, List.getElem?_cons_succ] at t0 t1 f0 f1
  clear q2
  go_upto_region 3 with fail
  go_region
  all_goals go_wp2_with fail
  have d1 := heap_setCell_same w1 (w.heap.size + 2) 0 _ _ (.int .i64 r1) HQ22.out
  have d2 := heap_setCell_same _ (w.heap.size + 2) 1 _ _ (.int .i64 r2) d1
  have hone : Only (fun k => k = w.heap.size + 2) w1 ((w1.setCell ⟨w.heap.size + 2, 0, none⟩ (.int .i64 r1)).setCell ⟨w.heap.size + 2, 1, none⟩ (.int .i64 r2)) := (only_one w1 _ 0 _).trans (only_one _ _ 1 _)
  generalize (w1.setCell ⟨w.heap.size + 2, 0, none⟩ (.int .i64 r1)).setCell ⟨w.heap.size + 2, 1, none⟩ (.int .i64 r2) = W9 at d2 hone ⊢
  have z0 := cell_of_heap d2 0
  have z1 := cell_of_heap d2 1
  simp at z0 z1
  refine bodyPost_ret (v := .agg #[.int .i64 r1, .int .i64 r2]) (by simp [results, Tryz.results81, go_sem, z0, z1]) rfl ⟨rfl, ?_⟩
  exact ((HB1.out.trans (HB2.out.mono HB1.out.size)).trans (hone.below (fun k hk => by omega))).drew
end Go.Proofs.YtfdklmpkienfhaaGreat

/- Package cover: Euler's number. -/
namespace Cov
set_option linter.unusedSimpArgs false
set_option linter.unusedVariables false
theorem eul_bound0 {n : Nat} (hn : n ≤ 200) : (eulS n []).1.natAbs ≤ 200 ∧ 0 < (eulS n []).2 ∧ (eulS n []).2 ≤ 2 := by
  have h := plus_le (a := (-(n : Int), 2)) (b := (0, 1)) (show (0 : Int) < 2 by decide) (show (0 : Int) < 1 by decide) (x := 200) (y := 2) (show (-(n : Int)).natAbs ≤ 200 by omega) (show (2 : Int) ≤ ((2 : Nat) : Int) by decide) (u := 0) (v := 1) (show (0 : Int).natAbs ≤ 0 by decide) (show (1 : Int) ≤ ((1 : Nat) : Int) by decide)
  exact ⟨h.1, h.2.1, h.2.2⟩
theorem eul_bound1 {n : Nat} (hn : n ≤ 200) {ms : List Int} {m : Int} (hm : m ≤ 12) {x y : Nat} (h : (eulS n ms).1.natAbs ≤ x ∧ 0 < (eulS n ms).2 ∧ (eulS n ms).2 ≤ (y : Int)) :
    (eulS n (ms ++ [m])).1.natAbs ≤ x * 24 + 200 * y ∧ 0 < (eulS n (ms ++ [m])).2 ∧ (eulS n (ms ++ [m])).2 ≤ ((y * 24 : Nat) : Int) := by
  rw [eulS_snoc]
  by_cases h0 : 0 < m
  · rw [if_pos h0]
    exact plus_le (a := eulS n ms) (b := ((n : Int), 2 * m)) h.2.1 (show (0 : Int) < 2 * m by omega) h.1 h.2.2 (u := 200) (v := 24) (show ((n : Int)).natAbs ≤ 200 by omega) (show 2 * m ≤ ((24 : Nat) : Int) by omega)
  · rw [if_neg h0]
    exact ⟨by omega, h.2.1, by omega⟩
theorem eul_bound {n : Nat} (hn : n ≤ 200) {a b c : Int} (ha : a ≤ 12) (hb : b ≤ 12) (hc : c ≤ 12) {i : Nat} (hi : i < 3) :
    (eulS n ([a, b, c].take i)).1.natAbs ≤ 1000000 ∧ 0 < (eulS n ([a, b, c].take i)).2 ∧ (eulS n ([a, b, c].take i)).2 ≤ 100000 := by
  have h0 := eul_bound0 hn
  have h1 := eul_bound1 hn (ms := []) (m := a) ha (x := 200) (y := 2) h0
  have h2 := eul_bound1 hn (ms := [a]) (m := b) hb (x := 5200) (y := 48) h1
  obtain rfl | rfl | rfl : i = 0 ∨ i = 1 ∨ i = 2 := by omega
  · exact ⟨by have := h0.1; simp only [List.take_zero]; omega, h0.2.1, by have := h0.2.2; simp only [List.take_zero]; omega⟩
  · refine ⟨?_, h1.2.1, ?_⟩
    · exact Nat.le_trans h1.1 (by decide)
    · exact Int.le_trans h1.2.2 (by decide)
  · refine ⟨?_, h2.2.1, ?_⟩
    · exact Nat.le_trans h2.1 (by decide)
    · exact Int.le_trans h2.2.2 (by decide)
end Cov
namespace Go.Proofs.YtfdklmpkienfhaaGreat
set_option linter.unusedSimpArgs false
set_option linter.unusedVariables false
open Go.RowKit
open Cov (plusP eulS)

noncomputable def eulOut (a b c : Int) (A : Nat → List Int) : Int × Int := if actErr a b c A = 0 then eulS (A 0).length [a, b, c] else (0, 0)

set_option maxRecDepth 100000 in
set_option maxHeartbeats 2000000 in
theorem cover_Euler (a b c : Int) (V : Nat → Value) (A : Nat → List Int) (w : World) (hA : AR w.heap.size w V A) (hlen : ∀ i, i < 3 → (A i).length ≤ 1000000000) :
    Calls Tryz.prog 23 #[ordersV a b c, actV V] w fun e w' => e = .returned (.tuple #[.agg #[.int .i64 (eulOut a b c A).1, .int .i64 (eulOut a b c A).2], .int .i64 (actErr a b c A)]) ∧ Below w.heap.size w w' := by
  have HCH := Lib.hid (fun W hA => cover_checked a b c V A W hA hlen)
  have HPL := Lib.hid (fun x1 x2 y1 y2 W h1 h2 h3 h4 => cover_plus x1 x2 y1 y2 W h1 h2 h3 h4)
  obtain ⟨hs1, hB1, q0, q1, q2, q3⟩ := alloc4 w (.cells #[.int .i64 a, .int .i64 b, .int .i64 c] 23) (.cells #[V 0, V 1, V 2] 27) (.cells #[.int .i64 0, .int .i64 0] 54) (.cells #[.int .i64 0] 39)
  obtain ⟨W1, hW1⟩ : ∃ W1, W1 = (((w.alloc (.cells #[.int .i64 a, .int .i64 b, .int .i64 c] 23)).alloc (.cells #[V 0, V 1, V 2] 27)).alloc (.cells #[.int .i64 0, .int .i64 0] 54)).alloc (.cells #[.int .i64 0] 39) := ⟨_, rfl⟩
  rw [← hW1] at hs1 hB1 q0 q1 q2 q3
  have HQ0 := Lib.hid q0; have HQ1 := Lib.hid q1; have HQ2 := Lib.hid q2; have HQ3 := Lib.hid q3
  have HS1 := Lib.hid hs1; have HB1 := Lib.hid hB1
  have HAW := Lib.hid (show AR W1.heap.size W1 V A from fun i hi => ((hA i hi).below HB1.out).more HB1.out.size)
  obtain ⟨a0, c0, hv0, -⟩ := hA 0 (by omega)
  obtain ⟨n, hn⟩ : ∃ n, n = (A 0).length := ⟨_, rfl⟩
  rw [← hn] at hv0
  have HV0 := Lib.hid hv0
  have HN := Lib.hid hn
  clear hA hlen q0 q1 q2 q3 hs1 hB1 hv0 hn
  have HZE := Lib.hid (fun (h : actErr a b c A = 0) => (show Hy.ordErr a b c = 0 ∧ 1 ≤ n ∧ n ≤ 200 from ⟨(actErr_zero h).1, by rw [HN.out]; exact ⟨(actErr_zero h).2.1.1.1, (actErr_zero h).2.1.1.2.1⟩⟩))
  obtain ⟨er, her⟩ : ∃ er, er = actErr a b c A := ⟨_, rfl⟩
  have hout : eulOut a b c A = if er = 0 then eulS n [a, b, c] else (0, 0) := by unfold eulOut; rw [← her, HN.out]
  rw [← her] at HCH HZE ⊢
  obtain ⟨ou, hou⟩ : ∃ ou, ou = eulOut a b c A := ⟨_, rfl⟩
  rw [← hou] at hout ⊢
  have HOUT := Lib.hid hout
  clear her hou hout
  unfold ordersV actV at *
  go_enter_defers Tryz.func23, Tryz.ntmps23
  go_upto_region 1 with fail
  rw [← hW1]
  clear hW1
  have k0 := cell_of_heap HQ0.out 0
  have k1 := cell_of_heap HQ0.out 1
  have k2 := cell_of_heap HQ0.out 2
  have p0 := box_at HQ1.out (i := 0) (by omega)
  have p1 := box_at HQ1.out (i := 1) (by omega)
  have p2 := box_at HQ1.out (i := 2) (by omega)
  simp only [List.getElem?_toArray, List.getElem?_cons_zero, List.getElem?_cons_succ] at k0 k1 k2
  go_wp2_with fail
  refine (HCH.out _ HAW.out).mono ?_
  rintro e w1 ⟨hcase, hB⟩
  have HB2 := Lib.hid hB
  clear hB k0 k1 k2 p0 p1 p2
  have hq2 := (HB2.out.block _ (show w.heap.size + 2 < W1.heap.size by have := HS1.out; omega)).trans HQ2.out
  have hq3 := (HB2.out.block _ (show w.heap.size + 3 < W1.heap.size by have := HS1.out; omega)).trans HQ3.out
  have HQ22 := Lib.hid hq2
  have HQ33 := Lib.hid hq3
  rcases hcase with ⟨rfl, rfl⟩ | ⟨hz, rfl⟩
  · clear hq2 hq3
    have hl0 : w.heap.size < W1.heap.size := by have := HS1.out; omega
    have hl1 : w.heap.size + 1 < W1.heap.size := by have := HS1.out; omega
    have q1 := (HB2.out.block _ hl1).trans HQ1.out
    have p0 := box_at q1 (i := 0) (by omega)
    rw [HV0.out] at p0
    clear q1
    obtain ⟨ho, hn1, hn2⟩ := HZE.out rfl
    have HO := Lib.hid (Hy.ordErr_zero ho)
    clear ho
    go_wp2_with fail
    refine (HPL.out _ _ _ _ _ ?_ ?_ ?_ ?_).mono ?_
    · omega
    · omega
    · decide
    · decide
    rintro e w2 ⟨rfl, hB⟩
    have HB3 := Lib.hid (HB2.out.trans (hB.mono HB2.out.size))
    clear hB p0
    obtain ⟨s1, hs1⟩ : ∃ s1, s1 = (plusP (-(n : Int), 2) (0, 1)).1 := ⟨_, rfl⟩
    obtain ⟨s2, hs2⟩ : ∃ s2, s2 = (plusP (-(n : Int), 2) (0, 1)).2 := ⟨_, rfl⟩
    rw [← hs1, ← hs2]
    have HSS := Lib.hid (And.intro hs1 hs2)
    clear hs1 hs2
    have q0 := (HB3.out.block _ hl0).trans HQ0.out
    have k0 := cell_of_heap q0 0
    have k1 := cell_of_heap q0 1
    have k2 := cell_of_heap q0 2
    simp only [List.getElem?_toArray, List.getElem?_cons_zero, List.getElem?_cons_succ] at k0 k1 k2
    clear q0
    have hl2 : w.heap.size < w2.heap.size := Nat.lt_of_lt_of_le hl0 HB3.out.size
    go_wp2_with fail
    have hnew : (w2.alloc (.cells #[.int .i64 s1, .int .i64 s2] 145)).heap[w2.heap.size]? = some (.cells #[.int .i64 (eulS n ([a, b, c].take 0)).1, .int .i64 (eulS n ([a, b, c].take 0)).2] 145) := by
      rw [HSS.out.1, HSS.out.2]; exact alloc_heap_new w2 _
    have HNEW := Lib.hid hnew
    clear hnew k0 k1 k2
    go_loopw [29] (fun iv wr => ∃ i : Nat, iv = .int .i64 i ∧ i ≤ 3 ∧ Hid (wr.heap[w2.heap.size]? = some (.cells #[.int .i64 (eulS n ([a, b, c].take i)).1, .int .i64 (eulS n ([a, b, c].take i)).2] 145)) ∧ Hid (Below w2.heap.size w2 wr)) (fun iv _ => 3 - (intOf iv).toNat)
    case atStart => exact ⟨0, rfl, Nat.zero_le _, HNEW, Lib.hid ((Below.refl _ _).alloc (Nat.le_refl _) _)⟩
    case round =>
      clear HNEW
      obtain ⟨i, rfl, hi, HS, HB⟩ := hrel
      by_cases hi3 : i < 3
      · have hii : (i : Int) < 3 := by omega
        obtain ⟨m, hm⟩ : ∃ m, [a, b, c][i]? = some m := ⟨_, List.getElem?_eq_getElem (by simpa using hi3)⟩
        have hix := fun W => run_index3 a b c m i hm W
        have hml : m ≤ 12 := by
          obtain ⟨⟨_, _, x1⟩, ⟨_, _, x2⟩, ⟨_, _, x3⟩⟩ := HO.out
          obtain rfl | rfl | rfl : i = 0 ∨ i = 1 ∨ i = 2 := by omega
          all_goals simp at hm; omega
        have hnext := Cov.eulS_snoc n ([a, b, c].take i) m
        rw [show [a, b, c].take i ++ [m] = [a, b, c].take (i + 1) from by rw [List.take_add_one, hm]; rfl] at hnext
        have hbd := Cov.eul_bound hn2 HO.out.1.2.2 HO.out.2.1.2.2 HO.out.2.2.2.2 hi3
        obtain ⟨u1, hu1⟩ : ∃ u1, u1 = (eulS n ([a, b, c].take i)).1 := ⟨_, rfl⟩
        obtain ⟨u2, hu2⟩ : ∃ u2, u2 = (eulS n ([a, b, c].take i)).2 := ⟨_, rfl⟩
        have hpair : eulS n ([a, b, c].take i) = (u1, u2) := by rw [hu1, hu2]
        rw [hpair] at hnext hbd HS
        have t0 := cell_of_heap HS.out 0
        have t1 := cell_of_heap HS.out 1
        have f0 := free_of_heap HS.out 0
        have f1 := free_of_heap HS.out 1
        simp only [List.getElem?_toArray, List.getElem?_cons_zero, List.getElem?_cons_succ] at t0 t1 f0 f1
        have HBD := Lib.hid hbd
        have HNX := Lib.hid hnext
        have HM := Lib.hid hm
        clear hm hnext hbd hu1 hu2 hpair
        by_cases h0 : 0 < m
        · go_wp2_with fail
          clear t0 t1 f0 f1
          refine (HPL.out _ _ _ _ _ HBD.out.1 HBD.out.2 ?_ ?_).mono ?_
          · omega
          · omega
          rintro e w3 ⟨rfl, hB⟩
          have HB4 := Lib.hid hB
          clear hB
          have hs3 := (HB4.out.block _ (Array.getElem?_eq_some_iff.1 HS.out).1).trans HS.out
          have f0 := free_of_heap hs3 0
          have f1 := free_of_heap hs3 1
          have t0 := cell_of_heap hs3 0
          have t1 := cell_of_heap hs3 1
          simp only [List.getElem?_toArray, List.getElem?_cons_zero, List.getElem?_cons_succ] at t0 t1 f0 f1
          have hnx := HNX.out
          rw [if_pos h0] at hnx
          obtain ⟨r1, hr1⟩ : ∃ r1, r1 = (plusP (u1, u2) ((n : Int), 2 * m)).1 := ⟨_, rfl⟩
          obtain ⟨r2, hr2⟩ : ∃ r2, r2 = (plusP (u1, u2) ((n : Int), 2 * m)).2 := ⟨_, rfl⟩
          rw [← hr1, ← hr2]
          have d1 := heap_setCell_same w3 w2.heap.size 0 _ _ (.int .i64 r1) hs3
          have d2 := heap_setCell_same _ w2.heap.size 1 _ _ (.int .i64 r2) d1
          have HD := Lib.hid (show ((w3.setCell ⟨w2.heap.size, 0, none⟩ (.int .i64 r1)).setCell ⟨w2.heap.size, 1, none⟩ (.int .i64 r2)).heap[w2.heap.size]? = some (.cells #[.int .i64 (eulS n ([a, b, c].take (i + 1))).1, .int .i64 (eulS n ([a, b, c].take (i + 1))).2] 145) from by rw [hnx, ← hr1, ← hr2]; simpa using d2)
          have HB5 := Lib.hid (show Below w2.heap.size w2 ((w3.setCell ⟨w2.heap.size, 0, none⟩ (.int .i64 r1)).setCell ⟨w2.heap.size, 1, none⟩ (.int .i64 r2)) from ((HB.out.trans (HB4.out.mono HB.out.size)).setCell (Nat.le_refl _) _).setCell (Nat.le_refl _) _)
          clear hs3 hnx hr1 hr2 d1 d2
          go_wp2_with fail
          go_roundw
          case rel => exact ⟨i + 1, by go_num, by omega, HD, HB5⟩
          case measure => simp [intOf]; omega
        · go_wp2_with fail
          have hnx := HNX.out
          rw [if_neg (by omega)] at hnx
          go_roundw
          case rel => exact ⟨i + 1, by go_num, by omega, by rw [hnx]; exact HS, HB⟩
          case measure => simp [intOf]; omega
      · obtain rfl : i = 3 := by omega
        have hii : ¬ ((3 : Nat) : Int) < 3 := by omega
        have hs9 := HS.out
        rw [show [a, b, c].take 3 = [a, b, c] from rfl] at hs9
        have ho := HOUT.out
        simp only [if_true] at ho
        rw [← ho] at hs9
        obtain ⟨o1, o2⟩ := ou
        simp only at hs9
        have t0 := cell_of_heap hs9 0
        have t1 := cell_of_heap hs9 1
        have HBW := Lib.hid (HB3.out.trans (HB.out.mono HB3.out.size))
        have h2 := (HBW.out.block _ (show w.heap.size + 2 < W1.heap.size by have := HS1.out; omega)).trans HQ2.out
        have h3 := (HBW.out.block _ (show w.heap.size + 3 < W1.heap.size by have := HS1.out; omega)).trans HQ3.out
        have c0 := cell_of_heap h2 0
        have c1 := cell_of_heap h2 1
        have c3 := cell_of_heap h3 0
        have f0 := free_of_heap h2 0
        have f1 := free_of_heap h2 1
        have f3 := free_of_heap h3 0
        simp only [List.getElem?_toArray, List.getElem?_cons_zero, List.getElem?_cons_succ] at t0 t1 c0 c1 c3 f0 f1 f3
        have H2 := Lib.hid h2
        have H3 := Lib.hid h3
        clear hs9 ho h2 h3
        go_wp2_with fail
        refine leaves_cons (f := 80) (args := #[.pointer (some ⟨w.heap.size + 2, 0, none⟩), .pointer (some ⟨w.heap.size + 3, 0, none⟩)]) (by simp) (by simp [go_sem]) ?_
        refine (caught_frac_idle ⟨w.heap.size + 2, 0, none⟩ ⟨w.heap.size + 3, 0, none⟩ _).mono ?_
        rintro e u' w'' ⟨rfl, rfl, rfl⟩
        have d1 := heap_setCell_same wr (w.heap.size + 2) 0 _ _ (.int .i64 o1) H2.out
        have d2 := heap_setCell_same _ (w.heap.size + 2) 1 _ _ (.int .i64 o2) d1
        have hone : Only (fun k => k = w.heap.size + 2) wr ((wr.setCell ⟨w.heap.size + 2, 0, none⟩ (.int .i64 o1)).setCell ⟨w.heap.size + 2, 1, none⟩ (.int .i64 o2)) := (only_one wr _ 0 _).trans (only_one _ _ 1 _)
        have d3 := (hone.block (w.heap.size + 3) (by omega)).trans H3.out
        have e3 := heap_setCell_same _ (w.heap.size + 3) 0 _ _ (.int .i64 0) d3
        have e2 := (heap_setCell_other _ ⟨w.heap.size + 3, 0, none⟩ (w.heap.size + 2) (.int .i64 0) (by simp)).trans d2
        have z0 := cell_of_heap e2 0
        have z1 := cell_of_heap e2 1
        have z3 := cell_of_heap e3 0
        simp at z0 z1 z3
        simp [Leaves, settle, results, Tryz.results23, go_sem, z0, z1, z3]
        exact (((HB1.out.trans (HBW.out.mono HB1.out.size)).setCell (by dsimp only; omega) _).setCell (by dsimp only; omega) _).setCell (by dsimp only; omega) _
  · clear hq2 hq3
    have HZ := Lib.hid hz
    clear hz
    go_wp2_with fail
    refine leaves_cons (f := 80) (args := #[.pointer (some ⟨w.heap.size + 2, 0, none⟩), .pointer (some ⟨w.heap.size + 3, 0, none⟩)]) (by simp) (by simp [go_sem]) ?_
    refine (caught_frac_panic (w.heap.size + 2) (w.heap.size + 3) _ _ 0 er w1 (by omega) HQ22.out HQ33.out).mono ?_
    rintro e u' w'' ⟨rfl, rfl, h0, h1, hO⟩
    have e2 := cell_of_heap h0 0
    have e4 := cell_of_heap h0 1
    have e3 := cell_of_heap h1 0
    simp at e2 e3 e4
    have hz := HZ.out
    have ho := HOUT.out
    rw [if_neg hz] at ho
    simp [Leaves, settle, results, Tryz.results23, go_sem, e2, e3, e4, ho]
    exact (HB1.out.trans (HB2.out.mono HB1.out.size)).trans (hO.below (fun k hk => by have := HS1.out; have := HB2.out.size; omega))
end Go.Proofs.YtfdklmpkienfhaaGreat

/- slices.Clone at []int. -/
namespace Go.Proofs.YtfdklmpkienfhaaGreat
set_option linter.unusedSimpArgs false
set_option linter.unusedVariables false
open Go.RowKit

set_option maxRecDepth 100000 in
set_option maxHeartbeats 2000000 in
/-- A slice that holds numbers. -/
theorem clone_some (w : World) (g off cap : Nat) (l : List Int) (hl : 0 < l.length ∧ l.length ≤ 900000000) (hc : ∀ k, k < l.length → w.cell? ⟨g, off + k, none⟩ = some (.int .i64 (l.getD k 0))) (hg : g < w.heap.size) :
    Calls Tryz.prog 59 #[.slice (some ⟨g, off, none⟩) l.length cap] w fun e w' => ∃ v g', e = .returned v ∧ QRow w' g' 1 v l.length (nums .i64 l) ∧ w.heap.size ≤ g' ∧ Below w.heap.size w w' := by
  have hnew := QRow.new w [] 0 1 3 rfl (by simp [maxLen])
  obtain ⟨n, hn⟩ : ∃ n, n = l.length := ⟨_, rfl⟩
  obtain ⟨xs, hxs⟩ : ∃ xs, xs = nums .i64 l := ⟨_, rfl⟩
  have hxl : xs.length = n * 1 := by rw [hxs, hn]; simp [nums]
  have hcells : ∀ (j : Nat) (u : Value), xs[j]? = some u → (w.alloc (.cells #[] 3)).cell? ((⟨g, off, none⟩ : Addr).add j) = some u := fun j u hj => by
    have hjl : j < l.length := by have := (List.getElem?_eq_some_iff.1 hj).1; rw [hxs] at this; simpa [nums] using this
    rw [Addr.add_lit, World.cell?_alloc_lt _ _ _ (by exact hg), hc j hjl]
    rw [hxs, nums_getD hjl] at hj
    exact hj
  have hone : ∀ u ∈ xs, u.oneCell' = true := fun u hu => by
    rw [hxs] at hu
    obtain ⟨x, _, rfl⟩ := List.mem_map.1 hu
    rfl
  have HSRC := Lib.hid (Src.ofSlice (P := Tryz.prog) (w.alloc (.cells #[] 3)) Tryz.underlying24 ⟨g, off, none⟩ n cap xs hxl hcells hone)
  have HNEW := Lib.hid hnew
  have HX := Lib.hid (And.intro hn hxs)
  have HN := Lib.hid (show 0 + n ≤ 1000000000 from by omega)
  rw [← hn, ← hxs]
  clear hnew hcells hone hxl hc hn hxs hl
  have heq : ∀ W : World, Sem.run Tryz.prog (binOp .eql 24 (.slice (some ⟨g, off, none⟩) n cap) (.slice none 0 0)) W = .ok (.bool false) W := fun W => by kernel_rfl
  go_enter Tryz.func59, Tryz.ntmps59
  go_wp2_with (at_builtin; refine wpList_queueSrc rowInt rfl _ _ rfl (v := .slice (some ⟨w.heap.size, 0, none⟩) 0 0) rfl HNEW.out rfl HSRC.out HN.out ?_)
  intro v' w' g' hq ho hg'
  obtain ⟨off', cap', hve, -⟩ := id hq
  subst hve
  have HQ := Lib.hid hq
  have HO := Lib.hid ho
  have HG := Lib.hid hg'
  clear hq ho hg'
  go_wp2_with fail
  go_ret
  refine ⟨_, g', rfl, by have := HQ.out; (try simp only [Nat.zero_add, List.nil_append] at this); exact this, ?_, ?_⟩
  · have := HG.out
    (try rw [World.size_alloc] at this)
    omega
  · exact ((Below.refl _ w).alloc (Nat.le_refl _) _).trans (HO.out.below (fun k hk => by (try rw [World.size_alloc] at hk); omega))
end Go.Proofs.YtfdklmpkienfhaaGreat
