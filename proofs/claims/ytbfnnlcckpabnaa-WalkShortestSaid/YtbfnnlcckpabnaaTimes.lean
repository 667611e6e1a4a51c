/- words.Times. -/
import Derived.Test.YtbfnnlcckpabnaaNormal
namespace Go.Proofs.Ytbfnnlcckpabnaa
set_option linter.unusedSimpArgs false
set_option linter.unusedVariables false
open Go.RowKit

set_option maxRecDepth 100000 in
set_option maxHeartbeats 1000000 in
theorem words_Times_badOrd (a b c : Int) (u v : List UInt8) (w : World) (he : Hy.ordErr a b c ≠ 0) :
    Calls Try.prog 58 #[ordersV a b c, str u, str v] w fun e w' => e = .returned (.tuple #[str [], .int .i64 (Hy.ordErr a b c)]) ∧ Below w.heap.size w w' := by
  have HCALL := Lib.hid (fun v W => words_begun_badOrd a b c v W he)
  unfold ordersV str at *
  go_enter_defers Try.func58, Try.ntmps58
  go_wp2_with fail
  refine (HCALL.out _ _).mono ?_
  rintro e w1 ⟨rfl, hB⟩
  have h1 : w1.heap[w.heap.size + 1]? = some (.cells #[.int .i64 0] 24 (0, 0)) := by
    have := alloc_heap_new (w.alloc (.cells #[.int .i64 a, .int .i64 b, .int .i64 c] 23)) (.cells #[.int .i64 0] 24)
    rw [World.size_alloc] at this
    exact (hB.block (w.heap.size + 1) (by simp)).trans ((heap_alloc_lt _ _ (by simp)).trans this)
  have c1 : w1.cell? ⟨w.heap.size + 1, 0, none⟩ = some (.int .i64 0) := cell_of_heap h1 0
  have f1 : w1.frozen? ⟨w.heap.size + 1, 0, none⟩ = false := free_of_heap h1 0
  have HB := Lib.hid hB; clear hB
  have H1 := Lib.hid h1; clear h1
  have HE := Lib.hid he; clear he
  go_wp2_with fail
  refine leaves_cons (f := 46) (args := #[.pointer (some ⟨w.heap.size + 1, 0, none⟩)]) (by simp) (by simp [go_sem]) ?_
  refine (words_caught_panic ⟨w.heap.size + 1, 0, none⟩ 0 (Hy.ordErr a b c) _ c1 f1).mono ?_
  rintro e u' w'' ⟨rfl, rfl, rfl⟩
  have hcs : (w1.setCell ⟨w.heap.size + 1, 0, none⟩ (.int .i64 (Hy.ordErr a b c))).cell? ⟨w.heap.size + 1, 0, none⟩ = some (.int .i64 (Hy.ordErr a b c)) := World.cell?_setCell_same _ _ _ c1
  simp [Leaves, settle, results, Try.results58, go_sem, hcs]
  exact ((((((Below.refl _ _).alloc (Nat.le_refl _) _).alloc (by simp) _).alloc (by simp; omega) _).trans (HB.out.mono (by simp; omega))).setCell (by simp) _)

set_option maxRecDepth 100000 in
set_option maxHeartbeats 1000000 in
theorem words_Times_badWord (o : Hy.Ord) (u v : List UInt8) (w : World) (he : Hy.ordErr o.m01 o.m12 o.m02 = 0) (hu : u.length ≤ 140737488355328) (hv : v.length ≤ 140737488355328) (hw : Hy.wordsErr [u, v] ≠ 0) :
    Calls Try.prog 58 #[ordersV o.m01 o.m12 o.m02, str u, str v] w fun e w' => e = .returned (.tuple #[str [], .int .i64 (Hy.wordsErr [u, v])]) ∧ Below w.heap.size w w' := by
  have HCALL := Lib.hid (fun sb W cap hs hsb => words_begun o sb [u, v] W he (by simp) (by simp; exact ⟨hu, hv⟩) cap hs hsb)
  have HE := Lib.hid he; clear he
  have HW := Lib.hid hw; clear hw
  have HU := Lib.hid hu; clear hu
  have HV := Lib.hid hv; clear hv
  unfold ordersV str at *
  go_enter_defers Try.func58, Try.ntmps58
  go_wp2_with fail
  refine (HCALL.out _ _ _ ?_ ?_).mono ?_
  · intro k hk
    simp at hk
    have this' := cell_new ((w.alloc (.cells #[.int .i64 o.m01, .int .i64 o.m12, .int .i64 o.m02] 23)).alloc (.cells #[.int .i64 0] 24)) #[.string ⟨u.toArray⟩, .string ⟨v.toArray⟩] 9 (0, 0) k
    rw [World.size_alloc, World.size_alloc] at this'
    refine this'.trans ?_
    obtain rfl | rfl : k = 0 ∨ k = 1 := by omega
    all_goals rfl
  · simp
  rintro e w1 hb
  unfold BegunPost at hb
  rw [if_neg HW.out] at hb
  obtain ⟨rfl, hB⟩ := hb
  have h1 : w1.heap[w.heap.size + 1]? = some (.cells #[.int .i64 0] 24 (0, 0)) := by
    have := alloc_heap_new (w.alloc (.cells #[.int .i64 o.m01, .int .i64 o.m12, .int .i64 o.m02] 23)) (.cells #[.int .i64 0] 24)
    rw [World.size_alloc] at this
    exact (hB.block (w.heap.size + 1) (by simp)).trans ((heap_alloc_lt _ _ (by simp)).trans this)
  have c1 : w1.cell? ⟨w.heap.size + 1, 0, none⟩ = some (.int .i64 0) := cell_of_heap h1 0
  have f1 : w1.frozen? ⟨w.heap.size + 1, 0, none⟩ = false := free_of_heap h1 0
  have HB := Lib.hid hB; clear hB
  have H1 := Lib.hid h1; clear h1
  go_wp2_with fail
  refine leaves_cons (f := 46) (args := #[.pointer (some ⟨w.heap.size + 1, 0, none⟩)]) (by simp) (by simp [go_sem]) ?_
  refine (words_caught_panic ⟨w.heap.size + 1, 0, none⟩ 0 (Hy.wordsErr [u, v]) _ c1 f1).mono ?_
  rintro e u' w'' ⟨rfl, rfl, rfl⟩
  have hcs : (w1.setCell ⟨w.heap.size + 1, 0, none⟩ (.int .i64 (Hy.wordsErr [u, v]))).cell? ⟨w.heap.size + 1, 0, none⟩ = some (.int .i64 (Hy.wordsErr [u, v])) := World.cell?_setCell_same _ _ _ c1
  simp [Leaves, settle, results, Try.results58, go_sem, hcs]
  exact ((((((Below.refl _ _).alloc (Nat.le_refl _) _).alloc (by simp) _).alloc (by simp; omega) _).trans (HB.out.mono (by simp; omega))).setCell (by simp) _)

set_option maxRecDepth 100000 in
set_option maxHeartbeats 1000000 in
theorem words_Times_ok (o : Hy.Ord) (ho : Small o) (u v : List UInt8) (w : World) (he : Hy.ordErr o.m01 o.m12 o.m02 = 0) (hw : Hy.wordsErr [u, v] = 0) (fuel : Nat) (nf : List UInt8) (hnf : Hy.norm o fuel (u ++ v) = some nf) :
    Calls Try.prog 58 #[ordersV o.m01 o.m12 o.m02, str u, str v] w fun e w' => e = .returned (.tuple #[str nf, .int .i64 0]) ∧ Below w.heap.size w w' := by
  have hu : u.length ≤ 60 := (Hy.wordErr_letters (Hy.wordsErr_zero hw u (by simp))).2
  have hv : v.length ≤ 60 := (Hy.wordErr_letters (Hy.wordsErr_zero hw v (by simp))).2
  have HCALL := Lib.hid (fun sb W cap hs hsb => words_begun o sb [u, v] W he (by simp) (by simp; omega) cap hs hsb)
  have hwe := hw
  have HWE := Lib.hid hwe; clear hwe
  have HE := Lib.hid he; clear he
  have HW := Lib.hid hw; clear hw
  have HU := Lib.hid hu; clear hu
  have HV := Lib.hid hv; clear hv
  have HO := Lib.hid ho; clear ho
  obtain ⟨G', y, n, hr, hy, rfl⟩ := Hy.norm_some hnf
  have HR := Lib.hid hr; clear hr
  have HY := Lib.hid hy; clear hy
  clear hnf
  unfold ordersV str at *
  go_enter_defers Try.func58, Try.ntmps58
  go_wp2_with fail
  refine (HCALL.out _ _ _ ?_ ?_).mono ?_
  · intro k hk
    simp at hk
    have this' := cell_new ((w.alloc (.cells #[.int .i64 o.m01, .int .i64 o.m12, .int .i64 o.m02] 23)).alloc (.cells #[.int .i64 0] 24)) #[.string ⟨u.toArray⟩, .string ⟨v.toArray⟩] 9 (0, 0) k
    rw [World.size_alloc, World.size_alloc] at this'
    refine this'.trans ?_
    obtain rfl | rfl : k = 0 ∨ k = 1 := by omega
    all_goals rfl
  · simp
  rintro e w1 hb
  unfold BegunPost at hb
  rw [HWE.out, if_pos rfl] at hb
  obtain ⟨pb, bs, rfl, hG, hpb, hB⟩ := hb
  have h1 : w1.heap[w.heap.size + 1]? = some (.cells #[.int .i64 0] 24 (0, 0)) := by
    have := alloc_heap_new (w.alloc (.cells #[.int .i64 o.m01, .int .i64 o.m12, .int .i64 o.m02] 23)) (.cells #[.int .i64 0] 24)
    rw [World.size_alloc] at this
    exact (hB.block (w.heap.size + 1) (by simp)).trans ((heap_alloc_lt _ _ (by simp)).trans this)
  have HB := Lib.hid hB; clear hB
  have H1 := Lib.hid h1; clear h1
  have HG := Lib.hid hG; clear hG
  have HPB := Lib.hid hpb; clear hpb
  go_wp2_with fail
  have hz : w.heap.size + 3 ≤ w1.heap.size := by have := HB.out.size; simp at this; omega
  refine (words_normal HO.out fuel (own := fun k => w.heap.size + 3 ≤ k ∧ k ≠ w1.heap.size) (pb := pb) (bs := bs) ((HG.out.alloc _).sub (fun i hi => ⟨?_, Nat.ne_of_lt (HG.out.lt hi)⟩)) w1.heap.size [u, v] 2 ?_ ?_ ?_ HWE.out (by simp) (w.heap.size + 3) (fun k hk => hk.1) G' y n ?_ HY.out).mono ?_
  · have := HG.out.lo i hi; simp at this; omega
  · intro k hk; simp at hk; exact ⟨by omega, by omega⟩
  · intro k hk
    simp at hk
    have this' := cell_new w1 #[.string ⟨u.toArray⟩, .string ⟨v.toArray⟩] 9 (0, 0) k
    refine this'.trans ?_
    obtain rfl | rfl : k = 0 ∨ k = 1 := by omega
    all_goals rfl
  · intro h; exact h.2 rfl
  · simpa using HR.out
  rintro e w2 ⟨rfl, hB2⟩
  have h2 : w2.heap[w.heap.size + 1]? = some (.cells #[.int .i64 0] 24 (0, 0)) :=
    (hB2.block (w.heap.size + 1) (by omega)).trans ((heap_alloc_lt _ _ (by omega)).trans H1.out)
  have c1 : w2.cell? ⟨w.heap.size + 1, 0, none⟩ = some (.int .i64 0) := cell_of_heap h2 0
  have f1 : w2.frozen? ⟨w.heap.size + 1, 0, none⟩ = false := free_of_heap h2 0
  have HB2 := Lib.hid hB2; clear hB2
  have H2 := Lib.hid h2; clear h2
  unfold str
  go_wp2_with fail
  refine leaves_cons (f := 46) (args := #[.pointer (some ⟨w.heap.size + 1, 0, none⟩)]) (by simp) (by simp [go_sem]) ?_
  refine (words_caught_idle ⟨w.heap.size + 1, 0, none⟩ _).mono ?_
  rintro e u' w'' ⟨rfl, rfl, rfl⟩
  have hcs : (w2.setCell ⟨w.heap.size + 1, 0, none⟩ (.int .i64 0)).cell? ⟨w.heap.size + 1, 0, none⟩ = some (.int .i64 0) := World.cell?_setCell_same _ _ _ c1
  simp [Leaves, settle, results, Try.results58, go_sem, hcs]
  have hb : Below w.heap.size w w1 := (((((Below.refl _ _).alloc (Nat.le_refl _) _).alloc (by simp) _).alloc (by simp; omega) _).trans (HB.out.mono (by simp; omega)))
  exact ((hb.alloc (by omega) _).trans (HB2.out.mono (by omega))).setCell (by simp) _

/-- words.Normal. -/
theorem words_Times (a b c : Int) (u v : List UInt8) (w : World) (hu : u.length ≤ 140737488355328) (hv : v.length ≤ 140737488355328) (fuel : Nat) (nf : List UInt8) (hnf : Hy.allErr a b c [u, v] = 0 → Hy.norm (Hy.toOrd a b c) fuel (u ++ v) = some nf) :
    Calls Try.prog 58 #[ordersV a b c, str u, str v] w fun e w' => e = .returned (.tuple #[str (if Hy.allErr a b c [u, v] = 0 then nf else []), .int .i64 (Hy.allErr a b c [u, v])]) ∧ Below w.heap.size w w' := by
  by_cases h1 : Hy.ordErr a b c = 0
  · have h0 := Hy.ordErr_zero h1
    rw [Hy.allErr_ok h1] at *
    obtain ⟨o, hoo⟩ : ∃ o, o = Hy.toOrd a b c := ⟨_, rfl⟩
    have ea : (o.m01 : Int) = a := by rw [hoo]; show ((a.toNat : Nat) : Int) = a; omega
    have eb : (o.m12 : Int) = b := by rw [hoo]; show ((b.toNat : Nat) : Int) = b; omega
    have ec : (o.m02 : Int) = c := by rw [hoo]; show ((c.toNat : Nat) : Int) = c; omega
    rw [← hoo] at hnf
    clear hoo
    subst ea eb ec
    by_cases h2 : Hy.wordsErr [u, v] = 0
    · rw [if_pos h2, h2]
      exact words_Times_ok o ⟨by omega, by omega, by omega⟩ u v w h1 h2 fuel nf (hnf h2)
    · rw [if_neg h2]
      exact words_Times_badWord o u v w h1 hu hv h2
  · rw [Hy.allErr_bad h1, if_neg h1]
    exact words_Times_badOrd a b c u v w h1
end Go.Proofs.Ytbfnnlcckpabnaa
