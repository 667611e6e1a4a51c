/- walk.Wall, Go, Way, Near at words that are none, or a mirror that is none. -/
import Derived.Test.YtbfnnlcckpabnaaGreatLd8
import Derived.Test.YtbfnnlcckpabnaaGreatWay
import Derived.Test.YtbfnnlcckpabnaaGreatNear
namespace Go.Proofs.YtbfnnlcckpabnaaGreat
set_option linter.unusedSimpArgs false
set_option linter.unusedVariables false
open Go.RowKit

set_option maxRecDepth 100000 in
set_option maxHeartbeats 1000000 in
theorem walk_normals_bad {w : World} {o : Hy.Ord} {mb wb tb : Nat} {W : Walls} {T : Things} (F : Hy.Fine o) (h : MRep w o mb wb tb W T) (ho : Small o) (sv : Value) (ws : List (List UInt8)) (hs : Texts w sv ws) (hn : ws.length ≤ 2) (h0 : 0 < ws.length) (hl : ∀ l ∈ ws, l.length ≤ 140737488355328) (hbad : Hy.wordsErr ws ≠ 0) :
    Calls Tryz.prog 49 #[.pointer (some ⟨mb, 0, none⟩), sv] w fun e w' => e = .returned (.tuple #[.slice none 0 0, .int .i64 (Hy.wordsErr ws)]) ∧ Below w.heap.size w w' := by
  refine (walk_normals h ho sv ws hs hn h0 hl 1000 (ws.map fun l => (Hy.norm o 1000 l).getD []) (by simp) (fun k hk hz => ?_)).mono fun e w' hp => ?_
  · have hlen := (Hy.wordErr_letters hz).2
    obtain ⟨n, hnn, _⟩ := Hy.norm_ok F (fuel := 1000) (lets_of_err hz) (by omega) (by omega)
    rw [hnn, List.getElem?_map, List.getElem?_eq_getElem hk]
    simp [hnn]
  · obtain ⟨h1, h2⟩ := hp
    rw [if_neg hbad] at h2
    exact ⟨h2, h1⟩

set_option maxRecDepth 100000 in
set_option maxHeartbeats 1000000 in
theorem walk_normal_bad {w : World} {o : Hy.Ord} {mb wb tb : Nat} {W : Walls} {T : Things} (h : MRep w o mb wb tb W T) (ho : Small o) (l : List UInt8) (hl : l.length ≤ 140737488355328) (hbad : Hy.wordErr l ≠ 0) :
    Calls Tryz.prog 52 #[.pointer (some ⟨mb, 0, none⟩), str l] w fun e w' => e = .returned (.tuple #[str [], .int .i64 (Hy.wordErr l)]) ∧ Below w.heap.size w w' := by
  refine (walk_normal h ho l hl 1000 [] (fun h => absurd h hbad)).mono fun e w' hp => ?_
  obtain ⟨h1, h2⟩ := hp
  rw [if_neg hbad] at h1
  exact ⟨h1, h2⟩

set_option maxRecDepth 100000 in
set_option maxHeartbeats 1000000 in
theorem walk_Go_bad {w : World} {o : Hy.Ord} {mb wb tb : Nat} {W : Walls} {T : Things} (F : Hy.Fine o) (h : MRep w o mb wb tb W T) (ho : Small o) (u v : List UInt8) (hu : u.length ≤ 140737488355328) (hv : v.length ≤ 140737488355328) (hbad : Hy.wordsErr [u, v] ≠ 0) :
    Calls Tryz.prog 20 #[.pointer (some ⟨mb, 0, none⟩), str u, str v] w fun e w' => e = .returned (.tuple #[str [], .int .i64 0, .int .i64 (Hy.wordsErr [u, v])]) ∧ Below w.heap.size w w' := by
  have HCALL := Lib.hid (fun W' (hb : MRep W' o mb wb tb W T) sv hs => walk_normals_bad F hb ho sv [u, v] hs (by simp) (by simp) (by simp; omega) hbad)
  have HGROW := Lib.hid (fun W' (hb : Below w.heap.size w W') => h.grow hb)
  have g1 : (Hy.wordsErr [u, v] != 0) = true := by rw [bne_iff_ne]; exact hbad
  generalize Hy.wordsErr [u, v] = er at HCALL g1
  clear h hbad hu hv
  unfold str at *
  go_enter Tryz.func20, Tryz.ntmps20
  go_wp2_with fail
  refine (HCALL.out _ (HGROW.out _ ((Below.refl _ _).alloc (Nat.le_refl _) _)) _ ⟨w.heap.size, 2, rfl, by simp, ?_⟩).mono ?_
  · intro k hk
    simp at hk
    obtain rfl | rfl : k = 0 ∨ k = 1 := by omega
    · simp [str]
    · simp [str]
  rintro e w1 ⟨rfl, hB⟩
  have HB := Lib.hid (((Below.refl _ w).alloc (Nat.le_refl _) (.cells #[.string ⟨u.toArray⟩, .string ⟨v.toArray⟩] 9)).trans (hB.mono (by simp)))
  clear hB HCALL
  go_wp2_with fail
  go_ret3
  exact ⟨rfl, HB.out⟩

set_option maxRecDepth 100000 in
set_option maxHeartbeats 1000000 in
theorem walk_Way_bad {w : World} {o : Hy.Ord} {mb wb tb : Nat} {W : Walls} {T : Things} (F : Hy.Fine o) (h : MRep w o mb wb tb W T) (ho : Small o) (u v : List UInt8) (hu : u.length ≤ 140737488355328) (hv : v.length ≤ 140737488355328) (hbad : Hy.wordsErr [u, v] ≠ 0) :
    Calls Tryz.prog 22 #[.pointer (some ⟨mb, 0, none⟩), str u, str v] w fun e w' => e = .returned (.tuple #[str [], .int .i64 (Hy.wordsErr [u, v])]) ∧ Below w.heap.size w w' := by
  have HCALL := Lib.hid (fun W' (hb : MRep W' o mb wb tb W T) sv hs => walk_normals_bad F hb ho sv [u, v] hs (by simp) (by simp) (by simp; omega) hbad)
  have HGROW := Lib.hid (fun W' (hb : Below w.heap.size w W') => h.grow hb)
  have g1 : (Hy.wordsErr [u, v] != 0) = true := by rw [bne_iff_ne]; exact hbad
  generalize Hy.wordsErr [u, v] = er at HCALL g1
  clear h hbad hu hv
  unfold str at *
  go_enter Tryz.func22, Tryz.ntmps22
  go_wp2_with fail
  have hB0 : Below w.heap.size w (((w.alloc (.cells #[.string ⟨#[]⟩] 9)).alloc (.cells #[.int .i64 0] 29)).alloc (.cells #[.string ⟨u.toArray⟩, .string ⟨v.toArray⟩] 9)) :=
    (((Below.refl _ _).alloc (Nat.le_refl _) _).alloc (by simp) _).alloc (by simp; omega) _
  have hnew := World.alloc_heap_new ((w.alloc (.cells #[.string ⟨#[]⟩] 9)).alloc (.cells #[.int .i64 0] 29)) (.cells #[.string ⟨u.toArray⟩, .string ⟨v.toArray⟩] 9)
  rw [World.size_alloc, World.size_alloc] at hnew
  refine (HCALL.out _ (HGROW.out _ hB0) _ ⟨w.heap.size + 1 + 1, 2, rfl, by simp, ?_⟩).mono ?_
  · intro k hk
    simp at hk
    obtain rfl | rfl : k = 0 ∨ k = 1 := by omega
    · exact cell_of_heap hnew 0
    · exact cell_of_heap hnew 1
  rintro e w1 ⟨rfl, hB⟩
  have HB := Lib.hid (hB0.trans (hB.mono (by simp; omega)))
  have hs1 := hB.size
  simp at hs1
  have l0 : w.heap.size < w1.heap.size := by omega
  have l1 : w.heap.size + 1 < w1.heap.size := by omega
  have hra : w1.heap[w.heap.size]? = some (.cells #[.string ⟨#[]⟩] 9) :=
    (hB.block _ (by simp; omega)).trans ((Below.heap_alloc _ _ _ (by simp; omega)).trans ((Below.heap_alloc _ _ _ (by simp)).trans (World.alloc_heap_new w _)))
  have hrb : w1.heap[w.heap.size + 1]? = some (.cells #[.int .i64 0] 29) := by
    refine (hB.block _ (by simp)).trans ((Below.heap_alloc _ _ _ (by simp)).trans ?_)
    have := World.alloc_heap_new (w.alloc (.cells #[.string ⟨#[]⟩] 9)) (.cells #[.int .i64 0] 29)
    rw [World.size_alloc] at this
    exact this
  have c0 := cell_of_heap hra 0
  have c1 := cell_of_heap hrb 0
  have f0 := free_of_heap hra 0
  have f1 := free_of_heap hrb 0
  simp at c0 c1
  clear hB hra hrb hB0 hnew HCALL
  go_wp2_with fail
  refine bodyPost_ret (v := .tuple #[.string ⟨#[]⟩, .int .i64 er]) (by simp [results, Tryz.results22, go_sem, c0, c1, f0, f1, l0, l1]) rfl ⟨rfl, ?_⟩
  exact ((HB.out.setCell (p := ⟨w.heap.size, 0, none⟩) (Nat.le_refl _) _).setCell (p := ⟨w.heap.size + 1, 0, none⟩) (Nat.le_succ _) _).alloc (by simp [World.setCell]; omega) _

set_option maxRecDepth 100000 in
set_option maxHeartbeats 1000000 in
theorem walk_Near_bad {w : World} {o : Hy.Ord} {mb wb tb : Nat} {W : Walls} {T : Things} (h : MRep w o mb wb tb W T) (ho : Small o) (u : List UInt8) (hu : u.length ≤ 140737488355328) (hbad : Hy.wordErr u ≠ 0) :
    Calls Tryz.prog 24 #[.pointer (some ⟨mb, 0, none⟩), str u] w fun e w' => e = .returned (.tuple #[str [], str [], .int .i64 (Hy.wordErr u)]) ∧ Below w.heap.size w w' := by
  have HCALL := Lib.hid (fun W' (hb : MRep W' o mb wb tb W T) => walk_normal_bad hb ho u hu hbad)
  have HGROW := Lib.hid (fun W' (hb : Below w.heap.size w W') => h.grow hb)
  have g1 : (Hy.wordErr u != 0) = true := by rw [bne_iff_ne]; exact hbad
  generalize Hy.wordErr u = er at HCALL g1
  clear h hbad hu
  unfold str at *
  go_enter Tryz.func24, Tryz.ntmps24
  go_wp2_with fail
  have hB0 : Below w.heap.size w ((w.alloc (.cells #[.pointer (some ⟨mb, 0, none⟩)] 28)).alloc (.cells #[.string ⟨#[]⟩] 9)) :=
    ((Below.refl _ _).alloc (Nat.le_refl _) _).alloc (by simp) _
  refine (HCALL.out _ (HGROW.out _ hB0)).mono ?_
  rintro e w1 ⟨rfl, hB⟩
  have HB := Lib.hid (hB0.trans (hB.mono (by simp; omega)))
  have hs1 := hB.size
  simp at hs1
  have l1 : w.heap.size + 1 < w1.heap.size := by omega
  have hrb : w1.heap[w.heap.size + 1]? = some (.cells #[.string ⟨#[]⟩] 9) := by
    refine (hB.block _ (by simp)).trans ?_
    have := World.alloc_heap_new (w.alloc (.cells #[.pointer (some ⟨mb, 0, none⟩)] 28)) (.cells #[.string ⟨#[]⟩] 9)
    rw [World.size_alloc] at this
    exact this
  have c1 := cell_of_heap hrb 0
  have f1 := free_of_heap hrb 0
  simp at c1
  clear hB hrb hB0 HCALL
  go_wp2_with fail
  refine bodyPost_ret (v := .tuple #[.string ⟨#[]⟩, .string ⟨#[]⟩, .int .i64 er]) (by simp [results, Tryz.results24, go_sem, c1, f1, l1]) rfl ⟨rfl, ?_⟩
  exact HB.out.setCell (p := ⟨w.heap.size + 1, 0, none⟩) (Nat.le_succ _) _

set_option maxRecDepth 100000 in
set_option maxHeartbeats 1000000 in
theorem walk_Wall_badWord {w : World} {o : Hy.Ord} {mb wb tb : Nat} {W : Walls} {T : Things} (h : MRep w o mb wb tb W T) (ho : Small o) (u : List UInt8) (hu : u.length ≤ 140737488355328) (m : Int) (there : Bool) (hbad : Hy.wordErr u ≠ 0) :
    Calls Tryz.prog 21 #[.pointer (some ⟨mb, 0, none⟩), encEdge (u, m), .bool there] w fun e w' => e = .returned (.int .i64 (Hy.wordErr u)) ∧ Below w.heap.size w w' := by
  have HCALL := Lib.hid (fun W' (hb : MRep W' o mb wb tb W T) => walk_normal_bad hb ho u hu hbad)
  have HGROW := Lib.hid (fun W' (hb : Below w.heap.size w W') => h.grow hb)
  have g1 : (Hy.wordErr u != 0) = true := by rw [bne_iff_ne]; exact hbad
  generalize Hy.wordErr u = er at HCALL g1
  clear h hbad hu
  rw [show encEdge (u, m) = .agg #[.string ⟨u.toArray⟩, .int .i64 m] from rfl]
  unfold str at *
  go_enter Tryz.func21, Tryz.ntmps21
  go_wp2_with fail
  refine (HCALL.out _ (HGROW.out _ ((Below.refl _ _).alloc (Nat.le_refl _) _))).mono ?_
  rintro e w1 ⟨rfl, hB⟩
  have HB := Lib.hid (((Below.refl _ w).alloc (Nat.le_refl _) (.cells #[.string ⟨u.toArray⟩, .int .i64 m] 64)).trans (hB.mono (by simp)))
  clear hB HCALL
  go_wp2_with fail
  go_ret
  exact ⟨rfl, HB.out⟩

set_option maxRecDepth 100000 in
set_option maxHeartbeats 1000000 in
theorem walk_Wall_badMirror {w : World} {o : Hy.Ord} {mb wb tb : Nat} {W : Walls} {T : Things} (F : Hy.Fine o) (h : MRep w o mb wb tb W T) (ho : Small o) (u : List UInt8) (hz : Hy.wordErr u = 0) (m : Int) (hm : m < 0 ∨ 2 < m) (there : Bool) :
    Calls Tryz.prog 21 #[.pointer (some ⟨mb, 0, none⟩), encEdge (u, m), .bool there] w fun e w' => e = .returned (.int .i64 1) ∧ Below w.heap.size w w' := by
  have hul := (Hy.wordErr_letters hz).2
  obtain ⟨nf, hnf, _⟩ := Hy.norm_ok F (fuel := 1000) (lets_of_err hz) (by omega) (by omega)
  have HCALL := Lib.hid (fun W' (hb : MRep W' o mb wb tb W T) => (walk_normal hb ho u (by omega) 1000 nf (fun _ => hnf)).mono fun e w' (hp : NormPost u nf W' e w') => (show e = .returned (.tuple #[str nf, .int .i64 0]) ∧ Below W'.heap.size W' w' from by
    obtain ⟨h1, h2⟩ := hp
    rw [if_pos hz, hz] at h1
    exact ⟨h1, h2⟩))
  have HGROW := Lib.hid (fun W' (hb : Below w.heap.size w W') => h.grow hb)
  clear h hz hnf
  rw [show encEdge (u, m) = .agg #[.string ⟨u.toArray⟩, .int .i64 m] from rfl]
  unfold str at *
  go_enter Tryz.func21, Tryz.ntmps21
  go_wp2_with fail
  refine (HCALL.out _ (HGROW.out _ ((Below.refl _ _).alloc (Nat.le_refl _) _))).mono ?_
  rintro e w1 ⟨rfl, hB⟩
  have he1 : w1.heap[w.heap.size]? = some (.cells #[.string ⟨u.toArray⟩, .int .i64 m] 64 (0, 0)) := (hB.block w.heap.size (by simp)).trans (alloc_heap_new w _)
  have ce := cell_of_heap he1 1
  simp at ce
  have HB := Lib.hid (((Below.refl _ w).alloc (Nat.le_refl _) (.cells #[.string ⟨u.toArray⟩, .int .i64 m] 64)).trans (hB.mono (by simp)))
  clear hB HCALL he1
  rcases hm with hm | hm
  · have g1 : decide (m < 0) = true := decide_eq_true hm
    go_wp2_with fail
    go_ret
    exact ⟨rfl, HB.out⟩
  · have g1 : decide (m < 0) = false := decide_eq_false (by omega)
    have g2 : decide (2 < m) = true := decide_eq_true hm
    have g3 : ¬ m < 0 := by omega
    go_wp2_with fail
    go_ret
    exact ⟨rfl, HB.out⟩
end Go.Proofs.YtbfnnlcckpabnaaGreat
