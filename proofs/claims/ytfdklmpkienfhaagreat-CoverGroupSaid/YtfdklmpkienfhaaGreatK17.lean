/- Package cover: the search for the next list, further. -/
import Derived.Test.YtfdklmpkienfhaaGreatK15
import Derived.Laws.CopyOwn
import Derived.Laws.MakeOwn

/- Package cover: the lists that lead back, as an iterator. -/
namespace Go.Proofs.YtfdklmpkienfhaaGreat
set_option linter.unusedSimpArgs false
set_option linter.unusedVariables false
open Go.RowKit

/-- A later world: the first N blocks are as they were. -/
structure LaterN (N : Nat) (w : World) where
  W : World
  h : Below N w W
instance (N : Nat) (w : World) : Inhabited (LaterN N w) := ⟨⟨w, Below.refl N w⟩⟩

set_option maxRecDepth 100000 in
set_option maxHeartbeats 2000000 in
theorem mul64_small (k : Nat) (hk : 1 ≤ k ∧ k ≤ 5) (w : World) : Calls Tryz.prog 194 #[.int .u64 1, .int .u64 (k : Int)] w fun e w' => e = .returned (.tuple #[.int .u64 0, .int .u64 (k : Int)]) ∧ w' = w := by
  obtain rfl | rfl | rfl | rfl | rfl : k = 1 ∨ k = 2 ∨ k = 3 ∨ k = 4 ∨ k = 5 := by omega
  all_goals go_enter Tryz.func194, Tryz.ntmps194
  all_goals go_wp2_with fail
  all_goals go_ret2
  all_goals exact ⟨by kernel_rfl, rfl⟩

set_option maxRecDepth 100000 in
set_option maxHeartbeats 2000000 in
theorem mul_small (k : Nat) (hk : 1 ≤ k ∧ k ≤ 5) (w : World) : Calls Tryz.prog 187 #[.int .u64 1, .int .u64 (k : Int)] w fun e w' => e = .returned (.tuple #[.int .u64 0, .int .u64 (k : Int)]) ∧ w' = w := by
  have HM := Lib.hid (fun W => mul64_small k hk W)
  go_enter Tryz.func187, Tryz.ntmps187
  go_wp2_with fail
  refine (HM.out _).mono ?_
  rintro e w1 ⟨rfl, rfl⟩
  go_wp2_with fail
  go_ret2
  exact ⟨rfl, rfl⟩

theorem slice_from (gb k m : Nat) (hm : m < k) (w : World) : (Instr.slice 24 (.slice (some ⟨gb, 0, none⟩) k k) (some (.int .i64 (m : Int))) none none).run Tryz.prog w = .ok (.slice (some ⟨gb, m, none⟩) (k - m) (k - m)) w := by
  have hs : (sizeOf 3).run Tryz.prog w = .ok 1 w := by kernel_rfl
  have h1 : (m : Int) ≤ (k : Int) := by omega
  have h2 : ¬ k - m = 0 := by omega
  have h3 : m ≤ k := by omega
  have h4 : ¬ k = m := by omega
  simp [Instr.slice, Sem.run_bind, run_underlying Tryz.underlying24, Result.andThen, Instr.sliceBounds, Instr.sliceBound, asIntOf, hs, h1, Addr.add, h2, h3, h4]
  by_cases h0 : m = 0
  · simp [h0]
  · simp [h0]
theorem slice_to (gb k m : Nat) (hm : m ≤ k) (hk : 0 < k) (w : World) : (Instr.slice 24 (.slice (some ⟨gb, 0, none⟩) k k) none (some (.int .i64 (m : Int))) none).run Tryz.prog w = .ok (.slice (some ⟨gb, 0, none⟩) m k) w := by
  have hs : (sizeOf 3).run Tryz.prog w = .ok 1 w := by kernel_rfl
  have h1 : (m : Int) ≤ (k : Int) := by omega
  have h2 : ¬ k = 0 := by omega
  simp [Instr.slice, Sem.run_bind, run_underlying Tryz.underlying24, Result.andThen, Instr.sliceBounds, Instr.sliceBound, asIntOf, hs, h1, Addr.add, h2, hm]

/-- The row while it is filled. -/
def repV (k m : Nat) : List Value := List.replicate m (.int .i64 (-1)) ++ List.replicate (k - m) (.int .i64 0)
theorem repV_len {k m : Nat} (h : m ≤ k) : (repV k m).length = k := by simp [repV]; omega
theorem repV_at {k m j : Nat} (hj : j < m) : (repV k m)[j]? = some (.int .i64 (-1)) := by
  unfold repV
  rw [List.getElem?_append_left (by simpa using hj)]
  simp [hj]
theorem repV_next {k m d : Nat} (h : m + d ≤ k) : splice (repV k m) m (List.replicate d (.int .i64 (-1))) = repV k (m + d) := by
  unfold splice repV
  rw [List.take_append_of_le_length (by simp), List.length_replicate]
  simp only [List.take_replicate, Nat.min_self]
  rw [List.drop_append]
  simp only [List.drop_replicate, List.length_replicate]
  rw [show m - (m + d) = 0 by omega, show m + d - m = d by omega, List.replicate_zero, List.nil_append, ← List.append_assoc, List.replicate_append_replicate, Nat.sub_sub]

set_option maxRecDepth 100000 in
set_option maxHeartbeats 2000000 in
theorem repeat_ones (k : Nat) (hk : 1 ≤ k ∧ k ≤ 5) (g : Nat) (w : World) (hc : w.cell? ⟨g, 0, none⟩ = some (.int .i64 (-1))) (hg : g < w.heap.size) :
    Calls Tryz.prog 171 #[.slice (some ⟨g, 0, none⟩) 1 1, .int .i64 (k : Int)] w fun e w' => ∃ gb, e = .returned (.slice (some ⟨gb, 0, none⟩) k k) ∧ w'.heap[gb]? = some (.cells (repV k k).toArray 3) ∧ w.heap.size ≤ gb ∧ Below w.heap.size w w' := by
  have HM := Lib.hid (fun W => mul_small k hk W)
  have hmk := make_ints w k (by omega)
  have hk5 := hk.2
  have hk1 := hk.1
  have h1 : ¬ (k : Int) < 0 := by omega
  have HC := Lib.hid hc
  clear hc
  go_enter Tryz.func171, Tryz.ntmps171
  go_wp2_with fail
  refine (HM.out _).mono ?_
  rintro e w1 ⟨rfl, rfl⟩
  go_upto_region 7 with fail
  have HCUR := Lib.hid (show (w1.alloc (.cells (Array.replicate k (.int .i64 0)) 3)).heap[w1.heap.size]? = some (.cells (repV k 0).toArray 3 (0, 0)) from by
    rw [show (repV k 0).toArray = Array.replicate k (Value.int .i64 0) from by simp [repV]]; exact alloc_heap_new w1 _)
  have HB0 := Lib.hid ((Below.refl _ w1).alloc (Nat.le_refl _) (.cells (Array.replicate k (Value.int .i64 0)) 3))
  clear hmk
  generalize w1.alloc (.cells (Array.replicate k (.int .i64 0)) 3) = W1 at HCUR HB0 ⊢
  go_wp2_with (with_reducible refine wpList_copy_splice rfl (.tmp 31) (.tmp 32) 24 24 rfl 3 Tryz.underlying24 (by kernel_rfl) (some ⟨w1.heap.size, 0, none⟩) (some ⟨g, 0, none⟩) k k 1 1 rfl rfl w1.heap.size 0 (repV k 0) 3 HCUR.out [.int .i64 (-1)] ?c1 ?c2 ?c3 ?c4 w1.heap.size w1 HB0.out (Nat.le_refl _) ?_)
  case c1 => exact (Nat.min_eq_left hk1).symm
  case c2 =>
    intro j v hj
    obtain rfl : j = 0 := by have := (List.getElem?_eq_some_iff.1 hj).1; simp at this; omega
    simp at hj
    subst hj
    exact (HB0.out.cell (p := ⟨g, 0, none⟩) hg).trans HC.out
  case c3 => rw [repV_len (by omega)]; simp; omega
  case c4 => intro v hv; simp at hv; subst hv; rfl
  intro w2 hh hb2
  have hsp := repV_next (k := k) (m := 0) (d := 1) (by omega)
  have HH := Lib.hid (show w2.heap[w1.heap.size]? = some (.cells (repV k 1).toArray 3 (0, 0)) from by
    have h := hh.out
    rw [show ([Value.int .i64 (-1)] : List Value) = List.replicate 1 (.int .i64 (-1)) from rfl, hsp] at h
    exact h)
  have HB2 := Lib.hid hb2
  clear hh hb2 hsp
  go_wp2_with fail
  go_loopw [8] (fun mv wr => ∃ m : Nat, mv = .int .i64 m ∧ 1 ≤ m ∧ m ≤ k ∧ Hid (wr.heap[w1.heap.size]? = some (.cells (repV k m).toArray 3 (0, 0))) ∧ Hid (Below w1.heap.size w1 wr)) (fun mv _ => k - (intOf mv).toNat)
  case atStart => exact ⟨1, rfl, Nat.le_refl _, hk1, HH, HB2⟩
  case round =>
    clear HH HB2
    obtain ⟨m, rfl, hm1, hmk, HH, HB⟩ := hrel
    by_cases hlt : m < k
    · have hmi : (m : Int) < (k : Int) := by omega
      have hs1 := fun W => slice_from w1.heap.size k m hlt W
      have hs2 := fun W => slice_to w1.heap.size k m hmk (by omega) W
      go_upto_region 9 with fail
      refine wp_region_segs [([0, 1, 2, 3, 4, 5, 6], [7, 8])] 9 (fun w' => ∃ q : LaterN w1.heap.size wr, w' = q.W) ⟨⟨wr.drew, (Below.refl _ _).drew⟩, rfl⟩ (by kernel_rfl) (by kernel_rfl) ?_
      simp only [List.map_cons, List.map_nil, pickOps, List.flatMap_cons, List.flatMap_nil, List.cons_append, List.nil_append, List.take_succ_cons, List.take_zero, List.drop_succ_cons, List.drop_zero, wpSegs]
      repeat (go_big_quiet_step (fail))
      refine wpQuiet_nil ?_
      refine wpG_step ?_
      intro K2 hK2
      clear hs1 hs2
      obtain ⟨d, hd⟩ : ∃ d, d = min m (k - m) := ⟨_, rfl⟩
      have HBD := Lib.hid (show Below w1.heap.size wr wr.drew from (Below.refl _ _).drew)
      have HHD := Lib.hid (show wr.drew.heap[w1.heap.size]? = some (.cells (repV k m).toArray 3 (0, 0)) from HH.out)
      have HD := Lib.hid hd
      clear hd
      go_wp2_with (with_reducible refine wpList_copy_splice rfl (.tmp 41) (.tmp 44) 24 24 rfl 3 Tryz.underlying24 (by kernel_rfl) (some ⟨w1.heap.size, m, none⟩) (some ⟨w1.heap.size, 0, none⟩) (k - m) (k - m) m k rfl rfl w1.heap.size m (repV k m) 3 HHD.out (List.replicate d (.int .i64 (-1))) ?c1 ?c2 ?c3 ?c4 w1.heap.size wr HBD.out (Nat.le_refl _) ?_)
      case c1 => rw [List.length_replicate, HD.out]
      case c2 =>
        intro _ j v hj
        have hjd : j < d := by have := (List.getElem?_eq_some_iff.1 hj).1; simpa using this
        have hv : v = .int .i64 (-1) := by
          rw [List.getElem?_replicate, if_pos hjd] at hj
          exact (Option.some.inj hj).symm
        rw [hv]
        have h := cell_of_heap HHD.out j
        rw [List.getElem?_toArray, repV_at (by have := HD.out; omega)] at h
        simpa using h
      case c3 => rw [repV_len hmk, List.length_replicate]; have := HD.out; omega
      case c4 => intro v hv; rw [List.eq_of_mem_replicate hv]; rfl
      intro w3 hh hb3
      have HH3 := Lib.hid (show w3.heap[w1.heap.size]? = some (.cells (repV k (m + d)).toArray 3 (0, 0)) from by
        have h := hh.out
        rw [repV_next (by have := HD.out; omega)] at h
        exact h)
      have HB3 := Lib.hid (HB.out.trans hb3)
      have HN3 := Lib.hid hb3
      have hdk : m + d ≤ k := by have := HD.out; omega
      have hd1 : 1 ≤ d := by have := HD.out; omega
      clear hh hb3
      go_wp2_with fail
      refine ⟨⟨⟨w3, HN3.out⟩, rfl⟩, hK2 _ _ ?_⟩
      clear hK2
      refine wpG_step ?_
      intro K3 hK3
      go_wp2_with fail
      refine ⟨⟨⟨w3, HN3.out⟩, rfl⟩, hK3 _ _ ?_⟩
      clear hK3
      refine wpG_nil ?_
      go_wp2_with fail
      exact ⟨⟨m + d, by rw [Int.natCast_add], by omega, hdk, HH3, HB3⟩, by simp [intOf]; omega⟩
    · obtain rfl : m = k := by omega
      have hmi : ¬ (m : Int) < (m : Int) := by omega
      go_wp2_with fail
      go_ret
      exact ⟨w1.heap.size, rfl, HH.out, Nat.le_refl _, HB.out⟩
end Go.Proofs.YtfdklmpkienfhaaGreat

/- Package cover: backs as an iterator. -/
namespace Go.Proofs.YtfdklmpkienfhaaGreat
set_option linter.unusedSimpArgs false
set_option linter.unusedVariables false
open Go.RowKit
open Cov (fillL fillP pairUp backsL)

attribute [local go_sem] Oper.semAt_some

theorem store_func {P : Program} {w : World} {a : Addr} {m : Mode} (fn : Fn) (first captured : Array Value) : (store a (.func fn first captured) m).run P w = stored P w a (.func fn first captured) m := run_store P w a _ m rfl
attribute [local go_sem] store_func

set_option maxRecDepth 100000 in
theorem cover_backs (n : Int) (w : World) :
    Calls Tryz.prog 153 #[.int .i64 n] w fun e w' => e = .returned (.func (.func 170) #[] #[.pointer (some ⟨w.heap.size, 0, none⟩)]) ∧ Below w.heap.size w w' ∧ w'.heap.size = w.heap.size + 1 ∧ w'.heap[w.heap.size]? = some (.cells #[.int .i64 n] 3) := by
  go_enter Tryz.func153, Tryz.ntmps153
  go_wp2_with fail
  go_ret
  exact ⟨rfl, (Below.refl _ _).alloc (Nat.le_refl _) _, by simp, World.alloc_heap_new w _⟩

theorem repV_nums (k : Nat) : repV k k = nums .i64 (List.replicate k (-1)) := by simp [repV, nums]

set_option maxRecDepth 100000 in
set_option maxHeartbeats 4000000 in
theorem backs_iter (X : Nat → Prop) {w : World} {n nb : Nat} (hn : 1 ≤ n ∧ n ≤ 5) (hnb : w.heap[nb]? = some (.cells #[.int .i64 n] 3)) :
    IterS Tryz.prog 170 #[.pointer (some ⟨nb, 0, none⟩)] (backsL n).length (BackS (backsL n) n) (fun k => k = nb ∨ X k) (fun _ => False) w := by
  intro l J Jx C W hW hOwn hSh hJ hJx hY h0 hC
  refine callsIn_wide.2 ?_
  have hnbW := (hOwn nb (.inl rfl)).2.1.trans hnb
  have hnbC := (hOwn nb (.inl rfl)).2.2
  have hnbl : nb < W.heap.size := (Array.getElem?_eq_some_iff.1 hnbW).1
  have HOWN := Lib.hid (show ∀ k, (k = nb ∨ X k) → k < W.heap.size from fun k hk => Nat.lt_of_lt_of_le (hOwn k hk).1 hW)
  have HFILL := Lib.hid (fun (yb tb fb gb cap : Nat) L i C' W1 (h0 : W.heap.size ≤ gb) h1 h2 h3 h4 h5 h6 => fill_ok (n := n) (l := l) (nb := nb) (yb := yb) (tb := tb) (fb := fb) (gb := gb) (cap := cap) ⟨hn.1, by omega⟩ (xs := backsL n) (J := J) (Jx := Jx) (Own := fun k => k = nb ∨ X k) hJ (N0 := W.heap.size) (fun k h => ⟨HOWN.out k h, by have := HOWN.out k h; omega⟩) (fun i C args W1 hi hS hj hf => hY i C args W1 hi hS hj hf) n (Nat.le_refl _) L i C' W1 h1 h2 h3 h4 h5 h6)
  have HREP := Lib.hid (fun g W hc hg => repeat_ones n hn g W hc hg)
  have HNB := Lib.hid hnbW; have HNC := Lib.hid hnbC
  have HJ := Lib.hid hJ; have HJ0 := Lib.hid h0; have HC := Lib.hid hC
  have z0 := cell_of_heap hnbW 0
  simp only [List.getElem?_toArray, List.getElem?_cons_zero] at z0
  have HN := Lib.hid hn
  clear hnb hnbW hnbC hOwn hSh hJ hJx hY h0 hC hW hn
  have hs1 : nb < W.heap.size + 1 := by omega
  go_enter Tryz.func170, Tryz.ntmps170
  go_upto_region 1 with fail
  obtain ⟨W1, hW1⟩ : ∃ W1, W1 = W.alloc (.cells #[.func (.yield l) #[] #[]] 100) := ⟨_, rfl⟩
  have HB1 := Lib.hid (show Below W.heap.size W W1 from by rw [hW1]; exact (Below.refl _ _).alloc (Nat.le_refl _) _)
  have HY1 := Lib.hid (show W1.heap[W.heap.size]? = some (.cells #[.func (.yield l) #[] #[]] 100) from by rw [hW1]; exact World.alloc_heap_new W _)
  have HS1 := Lib.hid (show W1.heap.size = W.heap.size + 1 from by rw [hW1]; simp)
  rw [← hW1]
  have z1 : W1.cell? ⟨nb, 0, none⟩ = some (.int .i64 n) := (HB1.out.cell (p := ⟨nb, 0, none⟩) hnbl).trans z0
  have hl1 : nb < W1.heap.size := by have := HS1.out; omega
  clear hW1 z0
  go_wp2_with fail
  refine (HREP.out _ _ ?_ ?_).mono ?_
  · simp
  · simp
  rintro e w2 ⟨gb, rfl, hgb, hge, hB⟩
  have HB2 := Lib.hid (show Below W1.heap.size W1 w2 from ((Below.refl _ _).alloc (Nat.le_refl _) _).trans (hB.mono (by simp)))
  have HGB := Lib.hid hgb
  have HGE := Lib.hid (show W1.heap.size + 1 ≤ gb from by rw [World.size_alloc] at hge; exact hge)
  clear hB hgb hge z1
  go_wp2_with fail
  obtain ⟨W3, hW3⟩ : ∃ W3, W3 = (w2.alloc (.cells #[.slice (some ⟨gb, 0, none⟩) n n] 24)).alloc (.cells #[.func (.func 172) #[] #[.pointer (some ⟨nb, 0, none⟩), .pointer (some ⟨W.heap.size, 0, none⟩), .pointer (some ⟨w2.heap.size, 0, none⟩), .pointer (some ⟨w2.heap.size + 1, 0, none⟩)]] 240) := ⟨_, rfl⟩
  rw [← hW3]
  have hs3 : W3.heap.size = w2.heap.size + 2 := by rw [hW3]; simp
  have hB3 : Below w2.heap.size w2 W3 := by rw [hW3]; exact ((Below.refl _ _).alloc (Nat.le_refl _) _).alloc (by simp) _
  have hWB : Below W.heap.size W W3 := HB1.out.trans ((HB2.out.trans (hB3.mono HB2.out.size)).mono HB1.out.size)
  have hgbl : gb < w2.heap.size := (Array.getElem?_eq_some_iff.1 HGB.out).1
  have hsz1 := HS1.out
  have hsz2 := HB2.out.size
  have hn5 := HN.out
  have hS : FillS n l nb W.heap.size w2.heap.size (w2.heap.size + 1) gb n (List.replicate n (-1)) W3 := by
    refine ⟨(hWB.block nb hnbl).trans HNB.out, ?_, ?_, ?_, ?_, by simp, fun k hk => .inl (by simp [List.getD, hk]), ?_⟩
    · exact (hB3.block _ (by omega)).trans ((HB2.out.block _ (by omega)).trans HY1.out)
    · rw [hW3]; exact (Below.heap_alloc _ _ _ (by simp)).trans (World.alloc_heap_new w2 _)
    · rw [hW3]
      have := World.alloc_heap_new (w2.alloc (.cells #[.slice (some ⟨gb, 0, none⟩) n n] 24)) (.cells #[.func (.func 172) #[] #[.pointer (some ⟨nb, 0, none⟩), .pointer (some ⟨W.heap.size, 0, none⟩), .pointer (some ⟨w2.heap.size, 0, none⟩), .pointer (some ⟨w2.heap.size + 1, 0, none⟩)]] 240)
      rwa [World.size_alloc] at this
    · have h := (hB3.block gb hgbl).trans HGB.out
      rw [repV_nums] at h
      have h2 : QRow W3 gb 1 (.slice (some ⟨gb, 0, none⟩) n n) n (nums .i64 (List.replicate n (-1))) := by
        refine ⟨0, n, rfl, Nat.le_refl _, by unfold maxLen; omega, by simp [nums], fun j u hj => ?_, fun j hj => ?_, by omega⟩
        · rw [cell_of_heap h, Nat.zero_add, List.getElem?_toArray]; exact hj
        · rw [cell_of_heap h, free_of_heap h, Nat.zero_add]
          refine ⟨?_, rfl⟩
          have : j < (nums .i64 (List.replicate n (-1))).length := by simp [nums]; omega
          simp [this]
          omega
      unfold IQ
      simpa using h2
    · have := HGE.out; omega
  have HS := Lib.hid hS
  have HAP := Lib.hid (show Apart5 nb W.heap.size w2.heap.size (w2.heap.size + 1) gb C from fun k hk h => by
    have h1 := HC.out k h
    have h2 := HGE.out
    rcases hk with rfl | rfl | rfl | rfl | rfl
    · exact HNC.out h
    all_goals omega)
  have HJ3 := Lib.hid (HJ.out 0 C W W3 HJ0.out (fun k hk => hWB.block k (by
    rcases hk with hk | hk
    · exact HC.out k hk
    · exact HOWN.out k hk)) hWB.size)
  have HWB := Lib.hid hWB
  have hcall := HFILL.out W.heap.size w2.heap.size (w2.heap.size + 1) gb n (List.replicate n (-1)) 0 C W3 (by have := HGE.out; omega) HS.out HAP.out HJ3.out (fun k hk => Nat.lt_of_lt_of_le (HC.out k hk) hWB.size) (fun j X h => by rw [Nat.zero_add]; exact h) hWB.size
  rw [Nat.sub_self] at hcall
  have HCALL := Lib.hid (callsIn_wide.1 hcall)
  have HGB3 := Lib.hid (show W.heap.size ≤ gb from by have := HGE.out; omega)
  clear hW3 hs3 hB3 hWB hgbl hsz1 hsz2 hn5 hS hcall hl1 hs1 hnbl
  refine HCALL.out.mono ?_
  rintro e W4 ⟨hO, C'', hC'', hend⟩
  have HRES := Lib.hid (show Only (fun k => Mine C W.heap.size k ∨ False) W W4 ∧ (∀ k, C'' k → Mine C W.heap.size k ∧ k < W4.heap.size) from
    ⟨(Only.of_below HWB.out (fun k hk => .inl (.inr hk))).trans (hO.mono (fun k hk => by
      rcases hk with (hk | hk) | hk
      · exact .inl (.inl hk)
      · exact .inl (.inr (Nat.le_trans HWB.out.size hk))
      · subst hk; exact .inl (.inr HGB3.out))),
     fun k hk => ⟨(hC'' k hk).1.imp id (fun h => Nat.le_trans HWB.out.size h), (hC'' k hk).2⟩⟩)
  clear hO hC''
  rcases hend with ⟨rfl, -, hj⟩ | ⟨rfl, i', hi', hjx⟩
  · have HEND := Lib.hid hj
    clear hj
    go_wp2_with fail
    go_end0
    refine ⟨⟨_, rfl⟩, HRES.out.1, C'', HRES.out.2, .inl ?_⟩
    have h := HEND.out
    rw [Nat.zero_add] at h
    exact h
  · have HEND := Lib.hid hjx
    clear hjx
    go_wp2_with fail
    go_end0
    exact ⟨⟨_, rfl⟩, HRES.out.1, C'', HRES.out.2, .inr ⟨i', hi', HEND.out⟩⟩
end Go.Proofs.YtfdklmpkienfhaaGreat
