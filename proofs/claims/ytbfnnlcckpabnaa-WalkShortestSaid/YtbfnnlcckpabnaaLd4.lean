/- walk.ordered: the order of walls. -/
import Derived.Test.YtbfnnlcckpabnaaLd3
namespace Go.Proofs.Ytbfnnlcckpabnaa
set_option linter.unusedSimpArgs false
set_option linter.unusedVariables false
open Go.RowKit

set_option maxRecDepth 100000 in
set_option maxHeartbeats 1000000 in
theorem cmp_Or_two (w : World) (g : Nat) (x y : Int) (h0 : w.cell? ⟨g, 0, none⟩ = some (.int .i64 x)) (h1 : w.cell? ⟨g, 1, none⟩ = some (.int .i64 y)) :
    Calls Try.prog 73 #[.slice (some ⟨g, 0, none⟩) 2 2] w fun e w' => e = .returned (.int .i64 (if x ≠ 0 then x else y)) ∧ w = w' := by
  obtain ⟨z, hz⟩ : ∃ z, z = (if x ≠ 0 then x else y) := ⟨_, rfl⟩
  rw [← hz]
  have HZ := Lib.hid hz
  clear hz
  go_enter Try.func73, Try.ntmps73
  go_wp2_with fail
  go_loop [8] (fun i => ∃ k : Nat, k ≤ 2 ∧ i = .int .i64 k ∧ Hid (0 < k → x = 0) ∧ Hid (1 < k → y = 0)) (fun i => 2 - (intOf i).toNat)
  case atStart => exact ⟨0, by omega, rfl, fun h => absurd h (by omega), fun h => absurd h (by omega)⟩
  case round =>
    obtain ⟨k, hk, rfl, HK, HK2⟩ := hrel
    obtain rfl | rfl | rfl : k = 0 ∨ k = 1 ∨ k = 2 := by omega
    · by_cases hx : x = 0
      · have HX := Lib.hid (fun (_ : 0 < 1) => hx)
        have g1 : (x != 0) = false := by rw [bne_eq_false_iff_eq]; exact hx
        clear hx
        go_wp2_with fail
        go_round
        case rel => exact ⟨1, by omega, by go_num, HX.out, fun h => absurd h (by omega)⟩
        case measure => simp [intOf]
      · have HX := Lib.hid hx
        have g1 : (x != 0) = true := by rw [bne_iff_ne]; exact hx
        clear hx
        go_wp2_with fail
        go_ret
        exact ⟨by rw [HZ.out, if_pos HX.out]; rfl, rfl⟩
    · have hx := HK.out (by omega)
      have HX := Lib.hid hx
      by_cases hy : y = 0
      · have HY := Lib.hid (fun (_ : 1 < 2) => hy)
        have g1 : (y != 0) = false := by rw [bne_eq_false_iff_eq]; exact hy
        clear hy hx
        go_wp2_with fail
        go_round
        case rel => exact ⟨2, by omega, by go_num, fun _ => HX.out, HY.out⟩
        case measure => simp [intOf]
      · have g1 : (y != 0) = true := by rw [bne_iff_ne]; exact hy
        clear hx hy
        go_wp2_with fail
        go_ret
        exact ⟨by rw [HZ.out, if_neg (by rw [HX.out]; simp)]; rfl, rfl⟩
    · have HX := Lib.hid (HK.out (by omega))
      have HY := Lib.hid (HK2.out (by omega))
      go_wp2_with fail
      go_ret
      exact ⟨by rw [HZ.out, if_neg (by rw [HX.out]; simp), HY.out]; rfl, rfl⟩

set_option maxRecDepth 100000 in
set_option maxHeartbeats 2000000 in
theorem walk_ordered (a b : List UInt8 × Int) (w : World) (ha : a.1.length ≤ 140737488355328) (hb : b.1.length ≤ 140737488355328) :
    Calls Try.prog 55 #[encEdge a, encEdge b] w fun e w' => e = .returned (.int .i64 (cmpE a b)) ∧ Below w.heap.size w w' := by
  obtain ⟨at', am⟩ := a
  obtain ⟨bt, bm⟩ := b
  have HF := Lib.hid (fun W => walk_first at' bt W ha hb)
  have HC := Lib.hid (fun W => cmp_Compare_int am bm W)
  have hE : cmpE (at', am) (bt, bm) = if Hy.cmpW at' bt ≠ 0 then Hy.cmpW at' bt else if am < bm then -1 else if bm < am then 1 else 0 := rfl
  rw [hE]
  clear hE ha hb
  generalize Hy.cmpW at' bt = x at *
  generalize (if am < bm then (-1 : Int) else if bm < am then 1 else 0) = y at *
  obtain ⟨z, hz⟩ : ∃ z, z = (if x ≠ 0 then x else y) := ⟨_, rfl⟩
  have HOR := Lib.hid (fun W g => cmp_Or_two W g x y)
  rw [← hz]
  simp only [← hz] at HOR
  clear hz
  unfold encEdge str at *
  go_enter Try.func55, Try.ntmps55
  go_wp2_with fail
  obtain ⟨W0, hW0⟩ : ∃ W0, ((w.alloc (.cells #[.string ⟨at'.toArray⟩, .int .i64 am] 59)).alloc (.cells #[.string ⟨bt.toArray⟩, .int .i64 bm] 59)) = W0 := ⟨_, rfl⟩
  have h0 : W0.heap[w.heap.size]? = some (.cells #[.string ⟨at'.toArray⟩, .int .i64 am] 59 (0, 0)) := by
    rw [← hW0, heap_alloc_lt _ _ (by simp)]
    exact alloc_heap_new w _
  have h1 : W0.heap[w.heap.size + 1]? = some (.cells #[.string ⟨bt.toArray⟩, .int .i64 bm] 59 (0, 0)) := by
    rw [← hW0]
    have h := alloc_heap_new (w.alloc (.cells #[.string ⟨at'.toArray⟩, .int .i64 am] 59)) (.cells #[.string ⟨bt.toArray⟩, .int .i64 bm] 59)
    rwa [World.size_alloc] at h
  have hB0 : Below w.heap.size w W0 := by rw [← hW0]; exact ((Below.refl _ _).alloc (Nat.le_refl _) _).alloc (by simp) _
  have hs0 : W0.heap.size = w.heap.size + 2 := by rw [← hW0]; simp
  rw [hW0]
  clear hW0
  have q0 := cell_of_heap h0 0
  have q1 := cell_of_heap h0 1
  have q2 := cell_of_heap h1 0
  have q3 := cell_of_heap h1 1
  simp at q0 q1 q2 q3
  have HB0 := Lib.hid hB0
  clear h0 h1 hB0
  go_cut [4] (fun s wx => s = .int .i64 z ∧ Hid (Below w.heap.size w wx))
  case first =>
    go_region_held3 (fun w' => w'.cell? ⟨w.heap.size, 0, none⟩ = some (.string ⟨at'.toArray⟩) ∧ w'.cell? ⟨w.heap.size, 1, none⟩ = some (.int .i64 am) ∧ w'.cell? ⟨w.heap.size + 1, 0, none⟩ = some (.string ⟨bt.toArray⟩) ∧ w'.cell? ⟨w.heap.size + 1, 1, none⟩ = some (.int .i64 bm))
      (first | go_keep | (with_reducible (exact ⟨q0, q1, q2, q3⟩)))
      ((first
        | (go_at_call 39; refine (HF.out _).mono ?_; rintro e w3 ⟨rfl, rfl⟩)
        | (go_at_call 59; refine (HC.out _).mono ?_; rintro e w3 ⟨rfl, rfl⟩)
        | (go_at_call 73; refine (HOR.out _ _ (by go_simp) (by go_simp)).mono ?_; rintro e w3 ⟨rfl, rfl⟩)))
    all_goals go_wp2_with fail
    all_goals go_meet
    case rel => exact ⟨rfl, (HB0.out.alloc HB0.out.size _).drew⟩
  case rest =>
    obtain ⟨rfl, HB⟩ := hcut
    go_wp2_with fail
    go_ret
    exact ⟨rfl, HB.out⟩
end Go.Proofs.Ytbfnnlcckpabnaa
