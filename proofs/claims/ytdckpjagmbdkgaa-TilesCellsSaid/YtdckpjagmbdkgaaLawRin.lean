/- The law TilesRings over the program: it returns true. -/
import Derived.Test.YtdckpjagmbdkgaaLawCnt
import Derived.Test.YtdckpjagmbdkgaaS49
namespace Go.Proofs.Ytdckpjagmbdkgaa
set_option linter.unusedSimpArgs false
set_option linter.unusedVariables false
open Go.RowKit
open Hy (Lets IsNF Lev wd aC)
open HySer (frac fracD refDen coefs coefAt coefs_at coefSub wrapU)

theorem coefSub_range (num den l : List Int) (k : Nat) : ∀ i, 0 ≤ coefSub num den l k i ∧ coefSub num den l k i < 18446744073709551616
  | 0 => by
    unfold coefSub
    split
    · unfold wrapU; omega
    · omega
  | i + 1 => by
    rw [coefSub]
    unfold wrapU; omega

theorem w64_int {a : Nat} {c : Int} (h : Hy.w64 a = BitVec.ofInt 64 c) (ha : a ≤ 1000000000) (hc : 0 ≤ c ∧ c < 18446744073709551616) : c = (a : Int) := by
  unfold Hy.w64 at h
  have h1 := congrArg BitVec.toNat h
  rw [BitVec.toNat_ofInt, BitVec.toNat_ofInt] at h1
  have : ((2 ^ 64 : Nat) : Int) = 18446744073709551616 := by decide
  rw [this] at h1
  omega

/-- The ring's number by the series. -/
theorem count_coef {o : Hy.Ord} (he : Hy.ordErr o.m01 o.m12 o.m02 = 0) {G : List Hy.Node} {N : Nat} (I : Hy.Inv o G Hy.No) (hF : Hy.Full G N) {n m : Nat} (hn : n ≤ N + 1) (hm : n < m) (hs : aC G n ≤ 1000000000) : (coefs (fracD (Hy.orders o)) (refDen (Hy.orders o)) m).getD n 0 = (aC G n : Int) := by
  have F : Hy.Fine o := Hy.fine_of he
  rw [coefs_at hm]
  have h := Hy.ring_ser F I hF n hn
  unfold HySer.ser at h
  exact w64_int h hs (coefSub_range _ _ _ _ _)

theorem ring_facts {o : Hy.Ord} (he : Hy.ordErr o.m01 o.m12 o.m02 = 0) {n : Nat} (hn : n ≤ 14) {L : List (List UInt8)} (h : RingWords o n L) :
    L.length ≤ 1000000000 ∧ (∀ x ∈ L, x.length = n ∧ Lets x ∧ IsNF o x x) ∧ L.Pairwise (fun a b => Hy.less a b = true) ∧ (coefs (fracD (Hy.orders o)) (refDen (Hy.orders o)) (n + 1)).getD n 0 = (L.length : Int) := by
  have F : Hy.Fine o := Hy.fine_of he
  obtain ⟨G, ring, lv, hp, hs⟩ := h
  have e : L.length = aC G n := by rw [hp.length_eq, List.length_map, lv.count]
  have e1 : aC G n ≤ 1000000000 := cnt_small lv
  refine ⟨by omega, Hy.ring_words F lv hp, Hy.ring_strict lv hp hs, ?_⟩
  obtain ⟨G1, ring1, _, lv1⟩ := Hy.lev_ok F (n + 1) (by omega)
  rw [e, Hy.same_a F lv.inv lv1.inv lv.upto (lv1.upto.less (by omega))]
  exact count_coef he lv1.inv lv1.isFull (by omega) (by omega) (cnt_small lv1)

set_option maxRecDepth 100000 in
set_option maxHeartbeats 4000000 in
theorem law_rin_err (a b c n : Int) (he : ringErr a b c n 14 ≠ 0) (w : World) :
    Calls Try.prog 3 #[ordersV a b c, .int .i64 n] w fun e w' => e = .returned (.bool true) ∧ Below w.heap.size w w' := by
  have HREF := Lib.hid (fun W => r04_Refused a b c n 14 W)
  have HCNT := Lib.hid (fun W => t04_Ring_err a b c n W he)
  have HSANE := Lib.hid (fun W' => sane4 W')
  have he' : (ringErr a b c n 14 != 0) = true := by rw [bne_iff_ne]; exact he
  have q0 := World.alloc_heap_new w (.cells #[.int .i64 a, .int .i64 b, .int .i64 c] 23)
  have HQ0 := Lib.hid q0
  have HB0 := Lib.hid ((Below.refl w.heap.size w).alloc (Nat.le_refl _) (.cells #[.int .i64 a, .int .i64 b, .int .i64 c] 23))
  generalize ringErr a b c n 14 = er at *
  clear he q0
  unfold ordersV at *
  go_enter Try.func3, Try.ntmps3
  go_upto_region 1 with fail
  generalize w.alloc (.cells #[.int .i64 a, .int .i64 b, .int .i64 c] 23) = W0 at *
  have lk0 : w.heap.size < W0.heap.size := (Array.getElem?_eq_some_iff.1 HQ0.out).1
  have k0 := cell_of_heap HQ0.out 0
  have k1 := cell_of_heap HQ0.out 1
  have k2 := cell_of_heap HQ0.out 2
  simp at k0 k1 k2
  have HK := Lib.hid (And.intro k0 (And.intro k1 k2))
  go_wp2_with fail
  refine (HREF.out _).mono ?_
  rintro e w1 ⟨rfl, hB⟩
  have HB1 := Lib.hid hB
  have c0 := (HB1.out.cell (p := ⟨w.heap.size, 0, none⟩) lk0).trans HK.out.1
  have c1 := (HB1.out.cell (p := ⟨w.heap.size, 1, none⟩) lk0).trans HK.out.2.1
  have c2 := (HB1.out.cell (p := ⟨w.heap.size, 2, none⟩) lk0).trans HK.out.2.2
  clear hB k0 k1 k2
  go_wp2_with fail
  refine (HCNT.out _).mono ?_
  rintro e w2 ⟨rfl, hB⟩
  have HB2 := Lib.hid (HB1.out.trans (hB.mono HB1.out.size))
  clear hB c0 c1 c2
  go_wp2_with fail
  refine (HSANE.out _).mono ?_
  rintro e w4 ⟨rfl, hB⟩
  have HB4 := Lib.hid (HB2.out.trans (hB.mono HB2.out.size))
  clear hB
  go_wp2_with fail
  go_returns
  exact ⟨rfl, HB0.out.trans (HB4.out.mono HB0.out.size)⟩

set_option maxRecDepth 100000 in
set_option maxHeartbeats 4000000 in
theorem law_rin_ok (o : Hy.Ord) (n : Nat) (ho : Hy.ordErr o.m01 o.m12 o.m02 = 0) (hn : n ≤ 14) (w : World) :
    Calls Try.prog 3 #[ordersV o.m01 o.m12 o.m02, .int .i64 n] w fun e w' => e = .returned (.bool true) ∧ Below w.heap.size w w' := by
  have F : Hy.Fine o := Hy.fine_of ho
  have h9 := Hy.ordErr_zero ho
  have hS : Small o := ⟨by omega, by omega, by omega⟩
  have hz : ringErr o.m01 o.m12 o.m02 n 14 = 0 := by
    unfold ringErr
    rw [if_neg (by simp [ho]), if_neg (by omega), if_neg (by omega)]
  have HREF := Lib.hid (fun W => r04_Refused o.m01 o.m12 o.m02 n 14 W)
  have HRING := Lib.hid (fun W => t04_Ring_ok o ho n hn W)
  have HFACT := Lib.hid (fun L (h : RingWords o n L) => ring_facts ho hn h)
  have HIS := Lib.hid (fun (L : List (List UInt8)) (h : RingWords o n L) (W : World) (v : Value) (hv : GQ W v (L.map str)) => r04_IsRing F hS (n := n) (by omega) hv (ring_facts ho hn h).1 (ring_facts ho hn h).2.1 (ring_facts ho hn h).2.2.1)
  have HCTS := Lib.hid (fun W => r04_Counts o ho n (by omega) W)
  have HSANE := Lib.hid (fun W' => sane4 W')
  rw [hz] at HREF
  obtain ⟨CS, hCS⟩ : ∃ L, L = coefs (fracD (Hy.orders o)) (refDen (Hy.orders o)) (n + 1) := ⟨_, rfl⟩
  have HCL := Lib.hid (show CS.length = n + 1 from by rw [hCS, HySer.length_coefs])
  rw [← hCS] at HCTS HFACT
  have q0 := World.alloc_heap_new w (.cells #[.int .i64 o.m01, .int .i64 o.m12, .int .i64 o.m02] 23)
  have HQ0 := Lib.hid q0
  have HB0 := Lib.hid ((Below.refl w.heap.size w).alloc (Nat.le_refl _) (.cells #[.int .i64 o.m01, .int .i64 o.m12, .int .i64 o.m02] 23))
  clear hz q0 hCS ho F hS h9
  unfold ordersV at *
  go_enter Try.func3, Try.ntmps3
  go_upto_region 1 with fail
  generalize w.alloc (.cells #[.int .i64 o.m01, .int .i64 o.m12, .int .i64 o.m02] 23) = W0 at *
  have lk0 : w.heap.size < W0.heap.size := (Array.getElem?_eq_some_iff.1 HQ0.out).1
  have k0 := cell_of_heap HQ0.out 0
  have k1 := cell_of_heap HQ0.out 1
  have k2 := cell_of_heap HQ0.out 2
  simp at k0 k1 k2
  have HK := Lib.hid (And.intro k0 (And.intro k1 k2))
  go_wp2_with fail
  refine (HREF.out _).mono ?_
  rintro e w1 ⟨rfl, hB⟩
  have HB1 := Lib.hid hB
  have c0 := (HB1.out.cell (p := ⟨w.heap.size, 0, none⟩) lk0).trans HK.out.1
  have c1 := (HB1.out.cell (p := ⟨w.heap.size, 1, none⟩) lk0).trans HK.out.2.1
  have c2 := (HB1.out.cell (p := ⟨w.heap.size, 2, none⟩) lk0).trans HK.out.2.2
  clear hB k0 k1 k2
  go_wp2_with fail
  refine (HRING.out _).mono ?_
  rintro e w2 ⟨v, L, rfl, hgq, hown, hB, hrw⟩
  have HB2 := Lib.hid (HB1.out.trans (hB.mono HB1.out.size))
  have HRW := Lib.hid hrw
  have HFL := Lib.hid (HFACT.out L hrw)
  have HG2 := Lib.hid hgq
  obtain ⟨av, cv, hv, -⟩ := hgq.open
  obtain ⟨LL, hLL⟩ : ∃ LL, LL = (L.map str).length := ⟨_, rfl⟩
  have hLC : LL = L.length := by rw [hLL]; simp
  have hv2 : v = .slice av LL cv := by rw [hv, hLL]
  clear hv
  subst hv2
  have HOWN := Lib.hid (fun b hb => Nat.le_trans HB1.out.size (hown b hb))
  have HLC := Lib.hid hLC
  have c0 := (HB2.out.cell (p := ⟨w.heap.size, 0, none⟩) lk0).trans HK.out.1
  have c1 := (HB2.out.cell (p := ⟨w.heap.size, 1, none⟩) lk0).trans HK.out.2.1
  have c2 := (HB2.out.cell (p := ⟨w.heap.size, 2, none⟩) lk0).trans HK.out.2.2
  have hLs : LL ≤ 1000000000 := by rw [hLC]; exact HFL.out.1
  have hwr : IntKind.u64.wrap (LL : Int) = (LL : Int) := by rw [wrapU_is]; unfold wrapU; omega
  clear hB hrw hgq hown hLL hLC
  go_wp2_with fail
  refine (HCTS.out _).mono ?_
  rintro e w4 ⟨v4, rfl, hq4, hB⟩
  have HB4 := Lib.hid (HB2.out.trans (hB.mono HB2.out.size))
  have HG4 := Lib.hid (HG2.out.later hB)
  obtain ⟨a0, c0', hv, hcells⟩ := hq4.open
  obtain ⟨L4, hL4⟩ : ∃ LL, LL = (nums .u64 CS).length := ⟨_, rfl⟩
  have hLC : L4 = n + 1 := by rw [hL4]; simp [nums, HCL.out]
  have hv2 : v4 = .slice a0 L4 c0' := by rw [hv, hL4]
  clear hv
  subst hv2
  obtain ⟨g, off, ha, hcell0⟩ := hcells n (.int .u64 (LL : Int)) (by
    have := HCL.out
    have h2 := HFL.out.2.2.2
    rw [HLC.out, ← h2]
    simp [nums, List.getD]
    rw [List.getElem?_eq_getElem (by omega)]
    rfl)
  subst ha
  have hnl : (n : Int) < (L4 : Int) := by omega
  have c0 := (HB4.out.cell (p := ⟨w.heap.size, 0, none⟩) lk0).trans HK.out.1
  have c1 := (HB4.out.cell (p := ⟨w.heap.size, 1, none⟩) lk0).trans HK.out.2.1
  have c2 := (HB4.out.cell (p := ⟨w.heap.size, 2, none⟩) lk0).trans HK.out.2.2
  clear hB hq4 hcells hL4 hLC
  go_wp2_with fail
  refine (HIS.out L HRW.out _ _ HG4.out).mono ?_
  rintro e w5 ⟨rfl, hB⟩
  have HB5 := Lib.hid (HB4.out.trans (hB.mono HB4.out.size))
  have HG5 := Lib.hid (show ∃ xs, xs.length = LL ∧ GQ w5 (.slice av LL cv) xs from ⟨_, by rw [HLC.out]; simp, HG4.out.later hB⟩)
  clear hB c0 c1 c2 hcell0
  go_wp2_with fail
  go_loopw [8] (fun iv wr => ∃ (i : Nat), iv = .int .i64 i ∧ i ≤ LL ∧ Hid (∃ xs, xs.length = LL ∧ GQ wr (.slice av LL cv) xs) ∧ Hid (Below W0.heap.size W0 wr)) (fun iv _ => LL - (intOf iv).toNat)
  case atStart => exact ⟨0, rfl, Nat.zero_le _, HG5, HB5⟩
  case round =>
    clear HB5 HG5 HG4 HB4
    obtain ⟨i, rfl, hi, HG, HB⟩ := hrel
    by_cases hil : i < LL
    · have hii : (i : Int) < (LL : Int) := by omega
      obtain ⟨xs, hxs, hg⟩ := HG.out
      obtain ⟨g1, hq⟩ : ∃ g, QRow wr g 1 (.slice av LL cv) xs.length xs := by
        rcases hg with ⟨_, h⟩ | h
        · subst h; simp at hxs; omega
        · exact h
      obtain ⟨off1, cap1, e1, e2, e3, e4, e5, e6, e7⟩ := hq
      have hq : QRow wr g1 1 (.slice av LL cv) xs.length xs := ⟨off1, cap1, e1, e2, e3, e4, e5, e6, e7⟩
      rw [hxs] at hq
      obtain ⟨rfl, -, rfl⟩ : av = some ⟨g1, off1, none⟩ ∧ LL = xs.length ∧ cv = cap1 := by simpa using e1
      have f6 := e6 i (by omega)
      obtain ⟨y, hy⟩ := Option.isSome_iff_exists.1 f6.1
      have f1 := f6.2
      have hset := hq.set rfl (j := i) (by omega) (.string ⟨#[120]⟩)
      have hW := HOWN.out g1 rfl
      have HN := Lib.hid (show ∃ ys, ys.length = LL ∧ GQ (wr.setCell ⟨g1, off1 + i, none⟩ (.string ⟨#[120]⟩)) (.slice (some ⟨g1, off1, none⟩) LL cv) ys from ⟨xs.set i (.string ⟨#[120]⟩), by rw [List.length_set, hxs], .inr ⟨g1, by rw [List.length_set, hxs]; exact hset⟩⟩)
      have HB2 := Lib.hid (HB.out.setCell (p := ⟨g1, off1 + i, none⟩) hW (.string ⟨#[120]⟩))
      clear hset hq e1 e2 e3 e4 e5 e6 e7 f6 hg hW HG hxs
      go_wp2_with fail
      go_roundw
      case rel => exact ⟨i + 1, by go_num, by omega, HN, HB2⟩
      case measure => simp [intOf]; omega
    · obtain rfl : i = LL := by omega
      have c0 := (HB.out.cell (p := ⟨w.heap.size, 0, none⟩) lk0).trans HK.out.1
      have c1 := (HB.out.cell (p := ⟨w.heap.size, 1, none⟩) lk0).trans HK.out.2.1
      have c2 := (HB.out.cell (p := ⟨w.heap.size, 2, none⟩) lk0).trans HK.out.2.2
      clear HG hi hil
      go_wp2_with fail
      refine (HRING.out _).mono ?_
      rintro e w6 ⟨v6, M, rfl, hgq, -, hB, hrw⟩
      have HB6 := Lib.hid (HB.out.trans (hB.mono HB.out.size))
      have HRM := Lib.hid hrw
      have HFM := Lib.hid (HFACT.out M hrw)
      have HG6 := Lib.hid hgq
      obtain ⟨am, cm, hv, -⟩ := hgq.open
      obtain ⟨LM, hLM⟩ : ∃ LL, LL = (M.map str).length := ⟨_, rfl⟩
      have hMC : LM = M.length := by rw [hLM]; simp
      have hv2 : v6 = .slice am LM cm := by rw [hv, hLM]
      clear hv
      subst hv2
      have hLL : LM = i := by
        have h1 := HFM.out.2.2.2
        have h2 := HFL.out.2.2.2
        have h3 := HLC.out
        omega
      clear hB hrw hgq hLM hMC c0 c1 c2
      subst hLL
      go_wp2_with fail
      refine (HSANE.out _).mono ?_
      rintro e w7 ⟨rfl, hB⟩
      have HB7 := Lib.hid (HB6.out.trans (hB.mono HB6.out.size))
      have HG7 := Lib.hid (HG6.out.later hB)
      have c0 := (HB7.out.cell (p := ⟨w.heap.size, 0, none⟩) lk0).trans HK.out.1
      have c1 := (HB7.out.cell (p := ⟨w.heap.size, 1, none⟩) lk0).trans HK.out.2.1
      have c2 := (HB7.out.cell (p := ⟨w.heap.size, 2, none⟩) lk0).trans HK.out.2.2
      clear hB
      go_wp2_with fail
      refine (HIS.out M HRM.out _ _ HG7.out).mono ?_
      rintro e w8 ⟨rfl, hB⟩
      have HB8 := Lib.hid (HB7.out.trans (hB.mono HB7.out.size))
      clear hB c0 c1 c2
      go_wp2_with fail
      go_returns
      exact ⟨rfl, HB0.out.trans (HB8.out.mono HB0.out.size)⟩
end Go.Proofs.Ytdckpjagmbdkgaa
