/- The law TilesCounts over the program: it returns true. -/
import Derived.Test.YtdckpjagmbdkgaaSn1
import Derived.Test.YtdckpjagmbdkgaaS48
import Derived.Test.YtdckpjagmbdkgaaS41
namespace Go.Proofs.Ytdckpjagmbdkgaa
set_option linter.unusedSimpArgs false
set_option linter.unusedVariables false
open Go.RowKit
open HySer (frac fracD refDen coefs coefAt coefs_at)

theorem ringErr_zero {a b c n m : Int} (h : ringErr a b c n m = 0) : Hy.ordErr a b c = 0 ∧ 0 ≤ n ∧ n ≤ m := by
  unfold ringErr at h
  by_cases h0 : Hy.ordErr a b c = 0
  · rw [if_neg (by simp [h0])] at h
    refine ⟨h0, ?_⟩
    split at h
    · omega
    · split at h <;> omega
  · rw [if_pos h0] at h; exact absurd h h0

theorem orders_two {o : Hy.Ord} (he : Hy.ordErr o.m01 o.m12 o.m02 = 0) : ∀ m ∈ Hy.orders o, 2 ≤ m := by
  have hg := (good_some he 3 (by omega)).1
  rw [someOrd_all] at hg
  exact hg.two

set_option maxRecDepth 100000 in
set_option maxHeartbeats 4000000 in
theorem law_cnt_err (a b c n : Int) (hn : -9223372036854775808 ≤ n ∧ n ≤ 9223372036854775807) (he : ringErr a b c n 1000 ≠ 0) (w : World) :
    Calls Try.prog 4 #[ordersV a b c, .int .i64 n] w fun e w' => e = .returned (.bool true) ∧ Below w.heap.size w w' := by
  have HREF := Lib.hid (fun W => r04_Refused a b c n 1000 W)
  have HCNT := Lib.hid (fun W => t04_Count a b c n W hn)
  have HSANE := Lib.hid (fun W' => sane4 W')
  have hv : countVal a b c n = 0 := by unfold countVal; rw [if_pos he]
  rw [hv] at HCNT
  have he' : (ringErr a b c n 1000 != 0) = true := by rw [bne_iff_ne]; exact he
  have q0 := World.alloc_heap_new w (.cells #[.int .i64 a, .int .i64 b, .int .i64 c] 23)
  have HQ0 := Lib.hid q0
  have HB0 := Lib.hid ((Below.refl w.heap.size w).alloc (Nat.le_refl _) (.cells #[.int .i64 a, .int .i64 b, .int .i64 c] 23))
  generalize ringErr a b c n 1000 = er at *
  clear he q0 hn hv
  unfold ordersV at *
  go_enter Try.func4, Try.ntmps4
  go_upto_region 1 with fail
  generalize w.alloc (.cells #[.int .i64 a, .int .i64 b, .int .i64 c] 23) = W0 at *
  have lk0 : w.heap.size < W0.heap.size := (Array.getElem?_eq_some_iff.1 HQ0.out).1
  have k0 := cell_of_heap HQ0.out 0
  have k1 := cell_of_heap HQ0.out 1
  have k2 := cell_of_heap HQ0.out 2
  simp at k0 k1 k2
  have HK := Lib.hid (And.intro k0 (And.intro k1 k2))
  go_wp2_with fail
  refine (HREF.out _).mono ?_
  rintro e w1 ⟨rfl, hB⟩
  have HB1 := Lib.hid hB
  have c0 := (HB1.out.cell (p := ⟨w.heap.size, 0, none⟩) lk0).trans HK.out.1
  have c1 := (HB1.out.cell (p := ⟨w.heap.size, 1, none⟩) lk0).trans HK.out.2.1
  have c2 := (HB1.out.cell (p := ⟨w.heap.size, 2, none⟩) lk0).trans HK.out.2.2
  clear hB k0 k1 k2
  go_wp2_with fail
  refine (HCNT.out _).mono ?_
  rintro e w2 ⟨rfl, hB⟩
  have HB2 := Lib.hid (HB1.out.trans (hB.mono HB1.out.size))
  clear hB c0 c1 c2
  go_wp2_with fail
  refine (HSANE.out _).mono ?_
  rintro e w4 ⟨rfl, hB⟩
  have HB4 := Lib.hid (HB2.out.trans (hB.mono HB2.out.size))
  clear hB
  go_wp2_with fail
  go_returns
  exact ⟨rfl, HB0.out.trans (HB4.out.mono HB0.out.size)⟩

set_option maxRecDepth 100000 in
set_option maxHeartbeats 4000000 in
theorem law_cnt_ok (o : Hy.Ord) (n : Nat) (ho : Hy.ordErr o.m01 o.m12 o.m02 = 0) (hn : n ≤ 1000) (w : World) :
    Calls Try.prog 4 #[ordersV o.m01 o.m12 o.m02, .int .i64 n] w fun e w' => e = .returned (.bool true) ∧ Below w.heap.size w w' := by
  have hz : ringErr o.m01 o.m12 o.m02 n 1000 = 0 := by
    unfold ringErr
    rw [if_neg (by simp [ho]), if_neg (by omega), if_neg (by omega)]
  have HREF := Lib.hid (fun W => r04_Refused o.m01 o.m12 o.m02 n 1000 W)
  have HCNT := Lib.hid (fun W => t04_Count o.m01 o.m12 o.m02 n W (by omega))
  have HCTS := Lib.hid (fun W => r04_Counts o ho n hn W)
  have HSANE := Lib.hid (fun W' => sane4 W')
  have hv : countVal o.m01 o.m12 o.m02 n = (coefs (fracD (Hy.orders o)) (refDen (Hy.orders o)) (n + 1)).getD n 0 := by
    unfold countVal
    rw [if_neg (by simp [hz]), coefs_at (by omega), ← HySer.counts_same (orders_two ho)]
    simp only [Int.toNat_natCast]
  rw [hv, hz] at HCNT
  rw [hz] at HREF
  obtain ⟨L, hL⟩ : ∃ L, L = coefs (fracD (Hy.orders o)) (refDen (Hy.orders o)) (n + 1) := ⟨_, rfl⟩
  have HL := Lib.hid (show L.length = n + 1 from by rw [hL, HySer.length_coefs])
  rw [← hL] at HCNT HCTS
  have q0 := World.alloc_heap_new w (.cells #[.int .i64 o.m01, .int .i64 o.m12, .int .i64 o.m02] 23)
  have HQ0 := Lib.hid q0
  have HB0 := Lib.hid ((Below.refl w.heap.size w).alloc (Nat.le_refl _) (.cells #[.int .i64 o.m01, .int .i64 o.m12, .int .i64 o.m02] 23))
  clear hz q0 hv hL ho
  unfold ordersV at *
  go_enter Try.func4, Try.ntmps4
  go_upto_region 1 with fail
  generalize w.alloc (.cells #[.int .i64 o.m01, .int .i64 o.m12, .int .i64 o.m02] 23) = W0 at *
  have lk0 : w.heap.size < W0.heap.size := (Array.getElem?_eq_some_iff.1 HQ0.out).1
  have k0 := cell_of_heap HQ0.out 0
  have k1 := cell_of_heap HQ0.out 1
  have k2 := cell_of_heap HQ0.out 2
  simp at k0 k1 k2
  have HK := Lib.hid (And.intro k0 (And.intro k1 k2))
  go_wp2_with fail
  refine (HREF.out _).mono ?_
  rintro e w1 ⟨rfl, hB⟩
  have HB1 := Lib.hid hB
  have c0 := (HB1.out.cell (p := ⟨w.heap.size, 0, none⟩) lk0).trans HK.out.1
  have c1 := (HB1.out.cell (p := ⟨w.heap.size, 1, none⟩) lk0).trans HK.out.2.1
  have c2 := (HB1.out.cell (p := ⟨w.heap.size, 2, none⟩) lk0).trans HK.out.2.2
  clear hB k0 k1 k2
  go_wp2_with fail
  refine (HCNT.out _).mono ?_
  rintro e w2 ⟨rfl, hB⟩
  have HB2 := Lib.hid (HB1.out.trans (hB.mono HB1.out.size))
  clear hB c0 c1 c2
  generalize hx : L.getD n 0 = x at *
  have HX := Lib.hid hx
  clear hx
  go_wp2_with fail
  refine (HSANE.out _).mono ?_
  rintro e w3 ⟨rfl, hB⟩
  have HB3 := Lib.hid (HB2.out.trans (hB.mono HB2.out.size))
  have c0 := (HB3.out.cell (p := ⟨w.heap.size, 0, none⟩) lk0).trans HK.out.1
  have c1 := (HB3.out.cell (p := ⟨w.heap.size, 1, none⟩) lk0).trans HK.out.2.1
  have c2 := (HB3.out.cell (p := ⟨w.heap.size, 2, none⟩) lk0).trans HK.out.2.2
  clear hB
  go_wp2_with fail
  refine (HCTS.out _).mono ?_
  rintro e w4 ⟨v4, rfl, hq4, hB⟩
  have HB4 := Lib.hid (HB3.out.trans (hB.mono HB3.out.size))
  obtain ⟨a0, c0', hv, hcells⟩ := hq4.open
  obtain ⟨LL, hLL⟩ : ∃ LL, LL = (nums .u64 L).length := ⟨_, rfl⟩
  have hLC : LL = n + 1 := by rw [hLL]; simp [nums, HL.out]
  have hv2 : v4 = .slice a0 LL c0' := by rw [hv, hLL]
  clear hv
  subst hv2
  obtain ⟨g, off, ha, hcell0⟩ := hcells n (.int .u64 x) (by
    have := HL.out
    rw [← HX.out]
    simp [nums, List.getD]
    rw [List.getElem?_eq_getElem (by omega)]
    simp)
  subst ha
  have hnl : (n : Int) < (LL : Int) := by omega
  clear hB hq4 hcells hLL hLC c0 c1 c2
  go_wp2_with fail
  go_returns
  exact ⟨rfl, HB0.out.trans (HB4.out.mono HB0.out.size)⟩
end Go.Proofs.Ytdckpjagmbdkgaa
