/- The law TilesCells over the program: it returns true. -/
import Derived.Test.YtdckpjagmbdkgaaLawRin
import Derived.Test.YtdckpjagmbdkgaaS51
namespace Go.Proofs.Ytdckpjagmbdkgaa
set_option linter.unusedSimpArgs false
set_option linter.unusedVariables false
open Go.RowKit
open Hy (Lev wd aC pC sC sumN)
open HySer (frac fracD refDen coefs coefAt coefs_at coefSub wrapU)

theorem sumN_mono (f : Nat → Nat) {i : Nat} : ∀ {j : Nat}, i ≤ j → sumN f i ≤ sumN f j
  | 0, h => by obtain rfl : i = 0 := by omega
               exact Nat.le_refl _
  | j + 1, h => by
    rcases Nat.lt_or_ge i (j + 1) with h1 | h1
    · exact Nat.le_trans (sumN_mono f (i := i) (j := j) (by omega)) (Nat.le_add_right _ _)
    · obtain rfl : i = j + 1 := by omega
      exact Nat.le_refl _

set_option maxRecDepth 100000 in
set_option maxHeartbeats 4000000 in
theorem law_cel_err (a b c n : Int) (he : ringErr a b c n 14 ≠ 0) (w : World) :
    Calls Try.prog 6 #[ordersV a b c, .int .i64 n] w fun e w' => e = .returned (.bool true) ∧ Below w.heap.size w w' := by
  have HREF := Lib.hid (fun W => r04_Refused a b c n 14 W)
  have HCNT := Lib.hid (fun W => t04_Cells_err a b c n W he)
  have HSANE := Lib.hid (fun W' => sane4 W')
  have he' : (ringErr a b c n 14 != 0) = true := by rw [bne_iff_ne]; exact he
  have q0 := World.alloc_heap_new w (.cells #[.int .i64 a, .int .i64 b, .int .i64 c] 23)
  have HQ0 := Lib.hid q0
  have HB0 := Lib.hid ((Below.refl w.heap.size w).alloc (Nat.le_refl _) (.cells #[.int .i64 a, .int .i64 b, .int .i64 c] 23))
  generalize ringErr a b c n 14 = er at *
  clear he q0
  unfold ordersV at *
  go_enter Try.func6, Try.ntmps6
  go_upto_region 1 with fail
  generalize w.alloc (.cells #[.int .i64 a, .int .i64 b, .int .i64 c] 23) = W0 at *
  have lk0 : w.heap.size < W0.heap.size := (Array.getElem?_eq_some_iff.1 HQ0.out).1
  have k0 := cell_of_heap HQ0.out 0
  have k1 := cell_of_heap HQ0.out 1
  have k2 := cell_of_heap HQ0.out 2
  simp at k0 k1 k2
  have HK := Lib.hid (And.intro k0 (And.intro k1 k2))
  go_wp2_with fail
  refine (HREF.out _).mono ?_
  rintro e w1 ⟨rfl, hB⟩
  have HB1 := Lib.hid hB
  have c0 := (HB1.out.cell (p := ⟨w.heap.size, 0, none⟩) lk0).trans HK.out.1
  have c1 := (HB1.out.cell (p := ⟨w.heap.size, 1, none⟩) lk0).trans HK.out.2.1
  have c2 := (HB1.out.cell (p := ⟨w.heap.size, 2, none⟩) lk0).trans HK.out.2.2
  clear hB k0 k1 k2
  go_wp2_with fail
  refine (HCNT.out _).mono ?_
  rintro e w2 ⟨rfl, hB⟩
  have HB2 := Lib.hid (HB1.out.trans (hB.mono HB1.out.size))
  clear hB c0 c1 c2
  go_wp2_with fail
  refine (HSANE.out _).mono ?_
  rintro e w4 ⟨rfl, hB⟩
  have HB4 := Lib.hid (HB2.out.trans (hB.mono HB2.out.size))
  clear hB
  go_wp2_with fail
  go_returns
  exact ⟨rfl, HB0.out.trans (HB4.out.mono HB0.out.size)⟩

set_option maxRecDepth 100000 in
set_option maxHeartbeats 4000000 in
theorem law_cel_ok (o : Hy.Ord) (n : Nat) (ho : Hy.ordErr o.m01 o.m12 o.m02 = 0) (hn : n ≤ 14) (w : World) :
    Calls Try.prog 6 #[ordersV o.m01 o.m12 o.m02, .int .i64 n] w fun e w' => e = .returned (.bool true) ∧ Below w.heap.size w w' := by
  have F : Hy.Fine o := Hy.fine_of ho
  have h9 := Hy.ordErr_zero ho
  have hS : Small o := ⟨by omega, by omega, by omega⟩
  have hz : ringErr o.m01 o.m12 o.m02 n 14 = 0 := by
    unfold ringErr
    rw [if_neg (by simp [ho]), if_neg (by omega), if_neg (by omega)]
  have HREF := Lib.hid (fun W => r04_Refused o.m01 o.m12 o.m02 n 14 W)
  have HCELL := Lib.hid (fun W => t04_Cells_ok o ho n hn W)
  have HCOF := Lib.hid (fun W => r04_CellsOf F hS hn W)
  have HCTS := Lib.hid (fun W => r04_Counts o ho n (by omega) W)
  have HSANE := Lib.hid (fun W' => sane4 W')
  rw [hz] at HREF
  obtain ⟨G, ring, _, lv⟩ := Hy.lev_ok F (n + 1) (by omega)
  have HSUM := Lib.hid (show sumN (aC G) (n + 1) ≤ 28697813 from by
    rw [← Hy.tU_all]
    have h1 := Hy.tU_le G n G.length
    have h2 := lv.small
    have h3 : 3 ^ (n + 1) ≤ 3 ^ 15 := Nat.pow_le_pow_right (by omega) (by omega)
    have h4 : 3 ^ 15 = 14348907 := by decide
    omega)
  have HSUM2 := Lib.hid (show sumN (pC o G) (n + 1) ≤ 300000000 ∧ sumN (Hy.sC G) (n + 1) ≤ 300000000 from by
    rw [← Hy.cU_all, ← Hy.eU_all]
    have h1 := Hy.cU_le o G n G.length
    have h1' := Hy.eU_le G n G.length
    have h2 := lv.small
    have h3 : 3 ^ (n + 1) ≤ 3 ^ 15 := Nat.pow_le_pow_right (by omega) (by omega)
    have h4 : 3 ^ 15 = 14348907 := by decide
    omega)
  have HCO := Lib.hid (fun k (hk : k < n + 1) => count_coef ho lv.inv lv.isFull (n := k) (m := n + 1) (by omega) hk (cnt_small lv))
  have HDISC := Lib.hid (fun h1 h2 h3 => Hy.disc F lv.inv h1 h2 h3 n)
  have HNUM := Lib.hid (fun T P S (h : CellsUp o (n + 1) T P S) => h.num G lv.inv lv.upto)
  have HNUM2 := Lib.hid (fun T P S (h : CellsUp o (n + 1) T P S) => h.num)
  obtain ⟨CS, hCS⟩ : ∃ L, L = coefs (fracD (Hy.orders o)) (refDen (Hy.orders o)) (n + 1) := ⟨_, rfl⟩
  have HCL := Lib.hid (show CS.length = n + 1 from by rw [hCS, HySer.length_coefs])
  rw [← hCS] at HCTS HCO
  have q0 := World.alloc_heap_new w (.cells #[.int .i64 o.m01, .int .i64 o.m12, .int .i64 o.m02] 23)
  have HQ0 := Lib.hid q0
  have HB0 := Lib.hid ((Below.refl w.heap.size w).alloc (Nat.le_refl _) (.cells #[.int .i64 o.m01, .int .i64 o.m12, .int .i64 o.m02] 23))
  clear hz q0 hCS ho F hS h9 lv
  unfold ordersV CellsOfPost at *
  go_enter Try.func6, Try.ntmps6
  go_upto_region 1 with fail
  generalize w.alloc (.cells #[.int .i64 o.m01, .int .i64 o.m12, .int .i64 o.m02] 23) = W0 at *
  have lk0 : w.heap.size < W0.heap.size := (Array.getElem?_eq_some_iff.1 HQ0.out).1
  have k0 := cell_of_heap HQ0.out 0
  have k1 := cell_of_heap HQ0.out 1
  have k2 := cell_of_heap HQ0.out 2
  simp at k0 k1 k2
  have HK := Lib.hid (And.intro k0 (And.intro k1 k2))
  go_wp2_with fail
  refine (HREF.out _).mono ?_
  rintro e w1 ⟨rfl, hB⟩
  have HB1 := Lib.hid hB
  have c0 := (HB1.out.cell (p := ⟨w.heap.size, 0, none⟩) lk0).trans HK.out.1
  have c1 := (HB1.out.cell (p := ⟨w.heap.size, 1, none⟩) lk0).trans HK.out.2.1
  have c2 := (HB1.out.cell (p := ⟨w.heap.size, 2, none⟩) lk0).trans HK.out.2.2
  clear hB k0 k1 k2
  go_wp2_with fail
  refine (HCELL.out _).mono ?_
  rintro e w2 ⟨T, P, S, rfl, hB, hcu⟩
  have HB2 := Lib.hid (HB1.out.trans (hB.mono HB1.out.size))
  have HCU := Lib.hid hcu
  obtain ⟨e1, e2, e3⟩ := HNUM.out T P S hcu
  have HE := Lib.hid (And.intro e1 (And.intro e2 e3))
  obtain ⟨c, hc⟩ : ∃ c, c = P.length := ⟨_, rfl⟩
  obtain ⟨d, hd⟩ : ∃ d, d = S.length := ⟨_, rfl⟩
  have HCD := Lib.hid (And.intro hc hd)
  rw [← hc, ← hd]
  have hTs : T ≤ 28697813 := by rw [e1]; exact HSUM.out
  have c0 := (HB2.out.cell (p := ⟨w.heap.size, 0, none⟩) lk0).trans HK.out.1
  have c1 := (HB2.out.cell (p := ⟨w.heap.size, 1, none⟩) lk0).trans HK.out.2.1
  have c2 := (HB2.out.cell (p := ⟨w.heap.size, 2, none⟩) lk0).trans HK.out.2.2
  clear hB hcu e1 e2 e3 hc hd
  go_wp2_with fail
  refine (HCTS.out _).mono ?_
  rintro e w4 ⟨v4, rfl, hq4, hB⟩
  have HB4 := Lib.hid (HB2.out.trans (hB.mono HB2.out.size))
  obtain ⟨a0, c0', hv, hcells⟩ := hq4.open
  obtain ⟨L4, hL4⟩ : ∃ LL, LL = (nums .u64 CS).length := ⟨_, rfl⟩
  have hLC : L4 = n + 1 := by rw [hL4]; simp [nums, HCL.out]
  have hv2 : v4 = .slice a0 L4 c0' := by rw [hv, hL4]
  clear hv
  subst hv2
  obtain ⟨g, off, ha, -⟩ := hcells 0 (.int .u64 (CS.getD 0 0)) (by
    have := HCL.out
    simp [nums, List.getD]
    rw [List.getElem?_eq_getElem (by omega)]
    rfl)
  subst ha
  have HCE := Lib.hid (fun k (hk : k < n + 1) => show w4.cell? ⟨g, off + k, none⟩ = some (.int .u64 (aC G k : Nat)) from by
    obtain ⟨g', off', e, h⟩ := hcells k (.int .u64 (aC G k : Nat)) (by
      have h0 := HCL.out
      have h1 := HCO.out k hk
      rw [← h1]
      simp [nums, List.getD]
      rw [List.getElem?_eq_getElem (by omega)]
      rfl)
    simp only [Option.some.injEq, Addr.mk.injEq, and_true] at e
    obtain ⟨rfl, rfl⟩ := e
    exact h)
  have HLC := Lib.hid hLC
  clear hB hq4 hcells hL4 hLC c0 c1 c2
  go_wp2_with fail
  go_loopw [10, 12] (fun sv kv wr => ∃ (k : Nat), sv = .int .u64 ((sumN (aC G) k : Nat) : Int) ∧ kv = .int .i64 k ∧ k ≤ n + 1 ∧ wr = w4) (fun _ kv _ => n + 1 - (intOf kv).toNat)
  case atStart => exact ⟨0, rfl, rfl, Nat.zero_le _, rfl⟩
  case round =>
    obtain ⟨k, rfl, rfl, hk, rfl⟩ := hrel
    have hlc := HLC.out
    by_cases hlt : k < n + 1
    · have hki : (k : Int) < (L4 : Int) := by omega
      have ck := HCE.out k hlt
      have hle : ∀ j, j ≤ n + 1 → sumN (aC G) j ≤ 28697813 := fun j hj => Nat.le_trans (sumN_mono (aC G) hj) HSUM.out
      have h1 := hle (k + 1) (by omega)
      have HSS := Lib.hid (show sumN (aC G) (k + 1) = sumN (aC G) k + aC G k from rfl)
      rw [HSS.out] at h1
      generalize sumN (aC G) k = x at *
      generalize aC G k = y at *
      have hwr : IntKind.u64.wrap ((x : Int) + (y : Int)) = ((x + y : Nat) : Int) := by rw [wrapU_is]; unfold wrapU; omega
      clear hle
      go_wp2_with fail
      go_roundw
      case rel => exact ⟨k + 1, by rw [HSS.out]; first | rfl | simp, by go_num, by omega, by simp⟩
      case measure => simp [intOf]; omega
    · obtain rfl : k = n + 1 := by omega
      have hki : ¬ ((n + 1 : Nat) : Int) < (L4 : Int) := by omega
      have hTe := HE.out.1
      rw [← hTe]
      have hwr : IntKind.u64.wrap (T : Int) = (T : Int) := by rw [wrapU_is]; unfold wrapU; omega
      have c0 := (HB4.out.cell (p := ⟨w.heap.size, 0, none⟩) lk0).trans HK.out.1
      have c1 := (HB4.out.cell (p := ⟨w.heap.size, 1, none⟩) lk0).trans HK.out.2.1
      have c2 := (HB4.out.cell (p := ⟨w.heap.size, 2, none⟩) lk0).trans HK.out.2.2
      clear hTe hlc HCE
      have HD2 := Lib.hid (show 0 < o.m12 → 0 < o.m02 → 0 < o.m01 → c + T = d + 1 from fun h1 h2 h3 => by
        have := HDISC.out h1 h2 h3
        have h4 := HE.out
        have h5 := HCD.out
        omega)
      have hcs : c ≤ 300000000 ∧ d ≤ 300000000 := by
        have h4 := HE.out
        have h5 := HCD.out
        have h6 := HSUM2.out
        omega
      obtain ⟨hcs1, hcs2⟩ := hcs
      go_upto_region 13 with fail
      go_cut [88] (fun s wx => s = .bool false ∧ wr = wx)
      case first =>
        by_cases h1 : o.m01 = 0
        · have hm1 : ((o.m01 : Int) != 0) = false := by rw [h1]; rfl
          clear h1
          go_wp2_with fail
          go_meet
          exact ⟨rfl, rfl⟩
        · have hm1 : ((o.m01 : Int) != 0) = true := by rw [bne_iff_ne]; omega
          by_cases h2 : o.m12 = 0
          · have hm2 : ((o.m12 : Int) != 0) = false := by rw [h2]; rfl
            clear h1 h2
            go_wp2_with fail
            go_meet
            exact ⟨rfl, rfl⟩
          · have hm2 : ((o.m12 : Int) != 0) = true := by rw [bne_iff_ne]; omega
            by_cases h3 : o.m02 = 0
            · have hm3 : ((o.m02 : Int) != 0) = false := by rw [h3]; rfl
              clear h1 h2 h3
              go_wp2_with fail
              go_meet
              exact ⟨rfl, rfl⟩
            · have hm3 : ((o.m02 : Int) != 0) = true := by rw [bne_iff_ne]; omega
              have hd := HD2.out (by omega) (by omega) (by omega)
              have hsum : (c : Int) - (d : Int) + (T : Int) = 1 := by omega
              clear h1 h2 h3 hd
              go_wp2_with fail
              go_meet
              exact ⟨rfl, rfl⟩
      case rest =>
        obtain ⟨rfl, rfl⟩ := hcut
        have c0 := (HB4.out.cell (p := ⟨w.heap.size, 0, none⟩) lk0).trans HK.out.1
        have c1 := (HB4.out.cell (p := ⟨w.heap.size, 1, none⟩) lk0).trans HK.out.2.1
        have c2 := (HB4.out.cell (p := ⟨w.heap.size, 2, none⟩) lk0).trans HK.out.2.2
        go_wp2_with fail
        refine (HCOF.out _).mono ?_
        rintro e w5 ⟨C, E, T2, G2, rfl, I2, U2, hC, hE, hT, hB⟩
        have HB5 := Lib.hid (HB4.out.trans (hB.mono HB4.out.size))
        obtain ⟨rfl, rfl, rfl⟩ : C = c ∧ E = d ∧ T2 = T := by
          obtain ⟨k1, k2, k3⟩ := HNUM2.out T P S HCU.out G2 I2 U2
          have h5 := HCD.out
          omega
        clear hB hC hE hT I2 U2 c0 c1 c2 hwr hki
        go_upto_region 16 with fail
        obtain ⟨W5, hW5⟩ : ∃ W5, W5 = w5.alloc (.cells #[.int .i64 C, .int .i64 E, .int .i64 T2] 48) := ⟨_, rfl⟩
        have q5 : W5.heap[w5.heap.size]? = some (.cells #[.int .i64 C, .int .i64 E, .int .i64 T2] 48) := by rw [hW5]; exact World.alloc_heap_new w5 _
        have HB6 := Lib.hid (show Below W0.heap.size W0 W5 from by rw [hW5]; exact HB5.out.alloc HB5.out.size _)
        rw [← hW5]
        have HQ5 := Lib.hid q5
        have hl5 : w5.heap.size < W5.heap.size := (Array.getElem?_eq_some_iff.1 q5).1
        clear hW5 q5
        go_wp2_with fail
        refine (HSANE.out _).mono ?_
        rintro e w7 ⟨rfl, hB⟩
        have HB7 := Lib.hid (HB6.out.trans (hB.mono HB6.out.size))
        have hq := (hB.block w5.heap.size hl5).trans HQ5.out
        have r0 := cell_of_heap hq 0
        have r1 := cell_of_heap hq 1
        have r2 := cell_of_heap hq 2
        simp only [List.getElem?_toArray, List.getElem?_cons_zero, List.getElem?_cons_succ] at r0 r1 r2
        clear hB hq
        go_wp2_with fail
        go_returns
        exact ⟨rfl, HB0.out.trans (HB7.out.mono HB0.out.size)⟩
end Go.Proofs.Ytdckpjagmbdkgaa
