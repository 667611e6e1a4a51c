/- Series and Count of package tiles. -/
import Derived.Test.YtdckpjagmbdkgaaP6
import Derived.Test.YtdckpjagmbdkgaaT5
namespace Go.Proofs.Ytdckpjagmbdkgaa
set_option linter.unusedSimpArgs false
set_option linter.unusedVariables false
open Go.RowKit
open HySer (frac coefAt coefs coefSub wrapU length_coefs coefs_at)

theorem infoU64 : (Try.prog.info? 30).map (fun i => (i.zero, i.size, i.bytes)) = some (some (.int .u64 0), 1, 8) := by kernel_rfl
theorem make_u64s (w : World) (n : Nat) (hn : n ≤ 1000000000) :
    (Instr.makeSlice 31 (.int .i64 n) (.int .i64 n)).run Try.prog w = .ok (.slice (some ⟨w.heap.size, 0, none⟩) n n) (w.alloc (.cells (Array.replicate n (.int .u64 0)) 30)) := by
  obtain ⟨i, hi, hz, hs, hb⟩ := info_parts infoU64
  exact run_make_nums w _ _ i Try.underlying31 hi hz hs (by omega) n hn

/-- Sums that stay in the kind. -/
theorem wrapU_is (x : Int) : IntKind.u64.wrap x = wrapU x := by
  unfold wrapU IntKind.wrap
  rfl

/-- Orders that the check lets by are numbers. -/
theorem ord_nat {a b c : Int} (h : Hy.ordErr a b c = 0) : ∃ o : Hy.Ord, a = (o.m01 : Int) ∧ b = (o.m12 : Int) ∧ c = (o.m02 : Int) ∧ Hy.ordErr o.m01 o.m12 o.m02 = 0 := by
  obtain ⟨h1, h2, h3⟩ := Hy.ordErr_zero h
  refine ⟨⟨a.toNat, b.toNat, c.toNat⟩, by simp; omega, by simp; omega, by simp; omega, ?_⟩
  simp only [Int.toNat_of_nonneg h1.1, Int.toNat_of_nonneg h2.1, Int.toNat_of_nonneg h3.1]
  exact h

/-- The fraction's lengths. -/
theorem frac_len {o : Hy.Ord} (he : Hy.ordErr o.m01 o.m12 o.m02 = 0) : 0 < (frac (Hy.orders o)).1.length ∧ 0 < (frac (Hy.orders o)).2.length ∧ (frac (Hy.orders o)).1.length ≤ 41 ∧ (frac (Hy.orders o)).2.length ≤ 41 := by
  have g := (good_some he 3 (by omega)).1
  rw [someOrd_all] at g
  have hf := g.fracD
  have hp := g.prod
  have hn := fracGo_len g _ (Nat.le_refl _)
  rw [fracGo_all] at hn
  obtain ⟨p1, p2⟩ := HySer.trimGo_len (HySer.fracD (Hy.orders o)).reverse.length (l := (HySer.fracD (Hy.orders o)).reverse)
  obtain ⟨p3, p4⟩ := HySer.trimGo_len (HySer.fracN (Hy.orders o)).reverse.length (l := (HySer.fracN (Hy.orders o)).reverse)
  have h := redTo_len (s := (HySer.ptrim (HySer.fracD (Hy.orders o)).reverse, HySer.ptrim (HySer.fracN (Hy.orders o)).reverse)) (p2 (by rw [List.length_reverse]; omega)) (p4 (by rw [List.length_reverse]; omega)) 11 (by omega)
  have e : redTo (HySer.ptrim (HySer.fracD (Hy.orders o)).reverse, HySer.ptrim (HySer.fracN (Hy.orders o)).reverse) 11 = frac (Hy.orders o) := by
    unfold redTo frac
    rw [List.take_of_length_le (by rw [length_circs]; omega)]
  rw [e] at h
  have q1 : (HySer.ptrim (HySer.fracD (Hy.orders o)).reverse).length ≤ (HySer.fracD (Hy.orders o)).reverse.length := p1
  have q2 : (HySer.ptrim (HySer.fracN (Hy.orders o)).reverse).length ≤ (HySer.fracN (Hy.orders o)).reverse.length := p3
  rw [List.length_reverse] at q1 q2
  simp only at h
  omega

def SeriesPost (o : Hy.Ord) (w : World) (e : Ending) (w' : World) : Prop :=
  ∃ vn vd, e = .returned (.tuple #[vn, vd, .int .i64 0]) ∧ PR .i64 w' vn (frac (Hy.orders o)).1 ∧ PR .i64 w' vd (frac (Hy.orders o)).2 ∧ Below w.heap.size w w'

set_option maxRecDepth 100000 in
set_option maxHeartbeats 2000000 in
theorem t04_Series {o : Hy.Ord} (he : Hy.ordErr o.m01 o.m12 o.m02 = 0) (w : World) : Calls Try.prog 31 #[ordersV o.m01 o.m12 o.m02] w (SeriesPost o w) := by
  have HAL := Lib.hid (fun W => t04_allowed o.m01 o.m12 o.m02 W)
  have HFR := Lib.hid (fun W => t04_fraction o he W)
  rw [he] at HAL
  have q0 := alloc_heap_new w (.cells #[.int .i64 o.m01, .int .i64 o.m12, .int .i64 o.m02] 23)
  have hb0 : Below w.heap.size w (w.alloc (.cells #[.int .i64 o.m01, .int .i64 o.m12, .int .i64 o.m02] 23)) := (Below.refl _ _).alloc (Nat.le_refl _) _
  have HQ0 := Lib.hid q0
  have HB0 := Lib.hid hb0
  unfold FracPost ordersV at *
  clear he q0 hb0
  go_enter Try.func31, Try.ntmps31
  go_upto_region 1 with fail
  generalize w.alloc (.cells #[.int .i64 o.m01, .int .i64 o.m12, .int .i64 o.m02] 23) = W0 at *
  have k0 := cell_of_heap HQ0.out 0
  have k1 := cell_of_heap HQ0.out 1
  have k2 := cell_of_heap HQ0.out 2
  simp at k0 k1 k2
  have hl0 : w.heap.size < W0.heap.size := (Array.getElem?_eq_some_iff.1 HQ0.out).1
  go_wp2_with fail
  refine (HAL.out _).mono ?_
  rintro e w1 ⟨rfl, hB1⟩
  have HB1 := Lib.hid (HB0.out.trans (hB1.mono HB0.out.size))
  have c0 := (hB1.cell (p := ⟨w.heap.size, 0, none⟩) hl0).trans k0
  have c1 := (hB1.cell (p := ⟨w.heap.size, 1, none⟩) hl0).trans k1
  have c2 := (hB1.cell (p := ⟨w.heap.size, 2, none⟩) hl0).trans k2
  clear k0 k1 k2 hB1
  go_wp2_with fail
  refine (HFR.out _).mono ?_
  rintro e w2 ⟨vn, vd, rfl, h1, h2, h3⟩
  have H1 := Lib.hid h1
  have H2 := Lib.hid h2
  have H3 := Lib.hid (HB1.out.trans (h3.mono HB1.out.size))
  clear h1 h2 h3
  go_wp2_with fail
  go_ret3
  exact ⟨vn, vd, rfl, H1.out, H2.out, H3.out⟩

/-- What Count returns. -/
def countVal (a b c n : Int) : Int := if ringErr a b c n 1000 ≠ 0 then 0 else
  let f := frac (Hy.orders ⟨a.toNat, b.toNat, c.toNat⟩)
  coefAt f.1 f.2 (coefs f.1 f.2 n.toNat) n.toNat

/-- The row in the midst: k coefficients, and i products of the next one. -/
def cst (num den : List Int) (n k i : Nat) : List Int := coefs num den k ++ coefSub num den (coefs num den k) k i :: List.replicate (n - k) 0
theorem cst_len (num den : List Int) {n k i : Nat} (hk : k ≤ n) : (cst num den n k i).length = n + 1 := by
  unfold cst
  simp [length_coefs]
  omega
theorem cst_at (num den : List Int) (n k i : Nat) : (cst num den n k i).getD k 0 = coefSub num den (coefs num den k) k i := by
  unfold cst
  simp [List.getD, List.getElem?_append, length_coefs]
theorem cst_low (num den : List Int) {n k i j : Nat} (h : j < k) : (cst num den n k i).getD j 0 = (coefs num den k).getD j 0 := by
  unfold cst
  simp [List.getD, List.getElem?_append, length_coefs, h]
theorem cst_succ (num den : List Int) (n k i : Nat) {x : Int} (hx : x = wrapU ((cst num den n k i).getD k 0 - wrapU (wrapU (den.getD (i + 1) 0) * (coefs num den k).getD (k - (i + 1)) 0))) : (cst num den n k i).set k x = cst num den n k (i + 1) := by
  rw [hx, cst_at]
  unfold cst
  rw [List.set_append_right _ _ (by rw [length_coefs]; exact Nat.le_refl _), length_coefs, Nat.sub_self, List.set_cons_zero]
  rfl
/-- The row ahead of the next coefficient. -/
def crow (num den : List Int) (n k : Nat) : List Int := coefs num den k ++ List.replicate (n + 1 - k) 0
theorem crow_zero (num den : List Int) (n : Nat) : crow num den n 0 = List.replicate (n + 1) 0 := by simp [crow, coefs]
theorem crow_len (num den : List Int) {n k : Nat} (hk : k ≤ n + 1) : (crow num den n k).length = n + 1 := by
  simp [crow, length_coefs]
  omega
theorem crow_some (num den : List Int) {n k : Nat} (hk : k ≤ n) (h : k < num.length) : (crow num den n k).set k (wrapU (num.getD k 0)) = cst num den n k 0 := by
  unfold crow cst
  rw [List.set_append_right _ _ (by rw [length_coefs]; exact Nat.le_refl _), length_coefs, Nat.sub_self, show n + 1 - k = (n - k) + 1 from by omega, List.replicate_succ, List.set_cons_zero, coefSub, if_pos h]
theorem crow_none (num den : List Int) {n k : Nat} (hk : k ≤ n) (h : ¬ k < num.length) : crow num den n k = cst num den n k 0 := by
  unfold crow cst
  rw [show n + 1 - k = (n - k) + 1 from by omega, List.replicate_succ, coefSub, if_neg h]
theorem cst_last (num den : List Int) {n k i : Nat} (hk : k ≤ n) (hi : i = min (den.length - 1) k) : cst num den n k i = crow num den n (k + 1) := by
  subst hi
  unfold cst crow
  rw [coefs, List.append_assoc, show n + 1 - (k + 1) = n - k from by omega]
  rfl

/-- The row's own memory. -/
structure OwnU (w wr : World) (g : Nat) (v : Value) (l : List Int) : Prop where
  q : IQ .u64 wr g v l
  ge : w.heap.size ≤ g
  below : Below w.heap.size w wr
theorem OwnU.set {w wr : World} {g off n cap : Nat} {l : List Int} (h : OwnU w wr g (.slice (some ⟨g, off, none⟩) n cap) l) {j : Nat} (hj : j < l.length) (x : Int) : OwnU w (wr.setCell ⟨g, off + j, none⟩ (.int .u64 x)) g (.slice (some ⟨g, off, none⟩) n cap) (l.set j x) :=
  ⟨h.q.set hj x, h.ge, h.below.setCell (p := ⟨g, off + j, none⟩) h.ge _⟩
theorem OwnU.drew {w wr : World} {g : Nat} {v : Value} {l : List Int} (h : OwnU w wr g v l) : OwnU w wr.drew g v l := ⟨h.q.of_heap rfl (Nat.le_refl _), h.ge, h.below.drew⟩

set_option maxRecDepth 100000 in
set_option maxHeartbeats 4000000 in
theorem t04_Count (a b c n : Int) (w : World) (hn : -9223372036854775808 ≤ n ∧ n ≤ 9223372036854775807) : Calls Try.prog 13 #[ordersV a b c, .int .i64 n] w fun e w' => e = .returned (.tuple #[.int .u64 (countVal a b c n), .int .i64 (ringErr a b c n 1000)]) ∧ Below w.heap.size w w' := by
  have HRG := Lib.hid (fun W => t04_ranged a b c n 1000 W)
  have q0 := alloc_heap_new w (.cells #[.int .i64 a, .int .i64 b, .int .i64 c] 23)
  have hb0 : Below w.heap.size w (w.alloc (.cells #[.int .i64 a, .int .i64 b, .int .i64 c] 23)) := (Below.refl _ _).alloc (Nat.le_refl _) _
  have HQ0 := Lib.hid q0
  have HB0 := Lib.hid hb0
  clear q0 hb0
  by_cases hr : ringErr a b c n 1000 = 0
  · have hE : Hy.ordErr a b c = 0 ∧ 0 ≤ n ∧ n ≤ 1000 := by
      unfold ringErr at hr
      by_cases h : Hy.ordErr a b c = 0
      · rw [if_neg (by simp [h])] at hr
        refine ⟨h, ?_⟩
        split at hr
        · omega
        · split at hr <;> omega
      · rw [if_pos h] at hr; exact absurd hr h
    have hcv : countVal a b c n = coefAt (frac (Hy.orders ⟨a.toNat, b.toNat, c.toNat⟩)).1 (frac (Hy.orders ⟨a.toNat, b.toNat, c.toNat⟩)).2 (coefs (frac (Hy.orders ⟨a.toNat, b.toNat, c.toNat⟩)).1 (frac (Hy.orders ⟨a.toNat, b.toNat, c.toNat⟩)).2 n.toNat) n.toNat := by unfold countVal; rw [if_neg (by simp [hr])]
    rw [hr] at HRG ⊢
    rw [hcv]
    obtain ⟨hO, hn0, hn1⟩ := hE
    obtain ⟨o, rfl, rfl, rfl, ho⟩ := ord_nat hO
    obtain ⟨N, rfl⟩ : ∃ N : Nat, n = (N : Int) := ⟨n.toNat, by omega⟩
    simp only [Int.toNat_natCast]
    have HFR := Lib.hid (fun W => t04_fraction o ho W)
    unfold FracPost ordersV at *
    obtain ⟨num, hnum⟩ : ∃ num, num = (frac (Hy.orders o)).1 := ⟨_, rfl⟩
    obtain ⟨den, hden⟩ : ∃ den, den = (frac (Hy.orders o)).2 := ⟨_, rfl⟩
    have HLEN := Lib.hid (frac_len ho)
    rw [← hnum, ← hden] at HLEN HFR
    show Calls _ _ _ _ fun e w' => e = .returned (.tuple #[.int .u64 (coefAt (frac (Hy.orders o)).1 (frac (Hy.orders o)).2 (coefs (frac (Hy.orders o)).1 (frac (Hy.orders o)).2 N) N), .int .i64 0]) ∧ Below w.heap.size w w'
    rw [← hnum, ← hden]
    clear hr hcv hO ho hn hnum hden
    go_enter Try.func13, Try.ntmps13
    go_upto_region 1 with fail
    generalize w.alloc (.cells #[.int .i64 o.m01, .int .i64 o.m12, .int .i64 o.m02] 23) = W0 at *
    have k0 := cell_of_heap HQ0.out 0
    have k1 := cell_of_heap HQ0.out 1
    have k2 := cell_of_heap HQ0.out 2
    simp at k0 k1 k2
    have hl0 : w.heap.size < W0.heap.size := (Array.getElem?_eq_some_iff.1 HQ0.out).1
    go_wp2_with fail
    refine (HRG.out _).mono ?_
    rintro e w1 ⟨rfl, hB1⟩
    have HB1 := Lib.hid (HB0.out.trans (hB1.mono HB0.out.size))
    have c0 := (hB1.cell (p := ⟨w.heap.size, 0, none⟩) hl0).trans k0
    have c1 := (hB1.cell (p := ⟨w.heap.size, 1, none⟩) hl0).trans k1
    have c2 := (hB1.cell (p := ⟨w.heap.size, 2, none⟩) hl0).trans k2
    clear k0 k1 k2 hB1
    go_wp2_with fail
    refine (HFR.out _).mono ?_
    rintro e w2 ⟨vn, vd, rfl, h1, h2, h3⟩
    have HB2 := Lib.hid (HB1.out.trans (h3.mono HB1.out.size))
    obtain ⟨gn, on, cn, rfl, hcapn, hgn, hcelln⟩ := h1
    obtain ⟨gd, od, cd, rfl, hcapd, hgd, hcelld⟩ := h2
    have HCN := Lib.hid (And.intro hgn hcelln)
    have HCD := Lib.hid (And.intro hgd hcelld)
    have hmk := make_u64s w2 (N + 1) (by omega)
    have hN1 : (N : Int) + 1 = ((N + 1 : Nat) : Int) := by omega
    clear h3 c0 c1 c2 hgn hcelln hgd hcelld hcapn hcapd
    rw [← hN1] at hmk
    obtain ⟨M, hM⟩ : ∃ M : Int, M = (N : Int) + 1 := ⟨_, rfl⟩
    have HM := Lib.hid hM
    have hM2 : IntKind.i64.wrap ((N : Int) + 1) = M := by rw [hM]; exact IntWalk.i64_in _ (by omega)
    rw [← hM] at hmk
    have H0 := Lib.hid (show OwnU w2 (w2.alloc (.cells (Array.replicate (N + 1) (.int .u64 0)) 30)) w2.heap.size (.slice (some ⟨w2.heap.size, 0, none⟩) (N + 1) (N + 1)) (crow num den N 0) from by
      rw [crow_zero]
      exact ⟨IQ.zeros .u64 w2 (N + 1) _ (by omega), Nat.le_refl _, (Below.refl _ _).alloc (Nat.le_refl _) _⟩)
    clear hN1 hM
    go_wp2_with fail
    obtain ⟨g, hg⟩ : ∃ g, g = w2.heap.size := ⟨_, rfl⟩
    rw [← hg] at H0 ⊢
    have HG := Lib.hid hg
    clear hg
    go_loopw [28] (fun kv wr => ∃ k : Nat, kv = .int .i64 k ∧ k ≤ N + 1 ∧ Hid (OwnU w2 wr g (.slice (some ⟨g, 0, none⟩) (N + 1) (N + 1)) (crow num den N k))) (fun kv _ => N + 1 - (intOf kv).toNat)
    case atStart => exact ⟨0, rfl, Nat.zero_le _, H0⟩
    case round =>
      clear H0
      obtain ⟨k, rfl, hk, HQ⟩ := hrel
      by_cases hlt : k ≤ N
      · have hki : (k : Int) < (N : Int) + 1 := by omega
        obtain ⟨bb, hbb⟩ : ∃ bb, bb = decide ((k : Int) < (num.length : Int)) := ⟨_, rfl⟩
        have HBBB := Lib.hid hbb
        have hbb2 : decide ((k : Int) < (num.length : Int)) = bb := hbb.symm
        clear hbb
        go_upto_if 34 with fail
        go_cut [10] (fun s wx => s = .int .i64 k ∧ Hid (OwnU w2 wx g (.slice (some ⟨g, 0, none⟩) (N + 1) (N + 1)) (cst num den N k 0)))
        case first =>
          have hbb := HBBB.out
          by_cases hkn : k < num.length
          · obtain ⟨-, hcc, hf⟩ := HQ.out.q.at
            have f1 := hf k (by rw [crow_len _ _ hk]; omega)
            have d1 := hcc k (by rw [crow_len _ _ hk]; omega)
            have c1 := (HQ.out.below.cell (p := ⟨gn, on + k, none⟩) HCN.out.1).trans (HCN.out.2 k hkn)
            have hkni : (k : Int) < (num.length : Int) := by omega
            have hs := HQ.out.set (j := k) (by rw [crow_len _ _ hk]; omega) (IntKind.u64.wrap (num.getD k 0))
            rw [wrapU_is, crow_some _ _ hlt hkn, ← wrapU_is] at hs
            rw [Nat.zero_add] at f1 hs d1
            generalize num.getD k 0 = x at c1 hs
            generalize (crow num den N k).getD k 0 = x9 at d1
            have HS := Lib.hid hs
            rw [decide_eq_true hkni] at hbb
            subst hbb
            clear hf hs hcc HQ HBBB
            go_wp2_with fail
            go_meet
            exact ⟨rfl, HS⟩
          · have hkni : ¬ (k : Int) < (num.length : Int) := by omega
            have hs := HQ.out
            rw [crow_none _ _ hlt hkn] at hs
            have HS := Lib.hid hs
            rw [decide_eq_false hkni] at hbb
            subst hbb
            clear hs HQ HBBB
            go_wp2_with fail
            go_meet
            exact ⟨rfl, HS⟩
        case rest =>
          obtain ⟨rfl, HC⟩ := hcut
          clear HQ HBBB hbb2
          have HKN := Lib.hid hlt
          go_wp2_with fail
          go_loopw [11] (fun iv wr => ∃ i : Nat, iv = .int .i64 ((i + 1 : Nat) : Int) ∧ i ≤ min (den.length - 1) k ∧ Hid (OwnU w2 wr g (.slice (some ⟨g, 0, none⟩) (N + 1) (N + 1)) (cst num den N k i))) (fun iv _ => k + 1 - (intOf iv).toNat)
          case atStart => exact ⟨0, rfl, Nat.zero_le _, HC⟩
          case round =>
            clear HC
            obtain ⟨i, rfl, hi, HR⟩ := hrel
            have hi1 := Nat.le_min.1 hi
            obtain ⟨hid1, hik⟩ := hi1
            obtain ⟨i1, hi1⟩ : ∃ i1, i1 = i + 1 := ⟨_, rfl⟩
            have HI1 := Lib.hid hi1
            by_cases hgo : i1 < den.length ∧ i1 ≤ k
            · obtain ⟨g1, g2⟩ := hgo
              have g1i : (i1 : Int) < (den.length : Int) := by omega
              have g2i : (i1 : Int) ≤ (k : Int) := by omega
              obtain ⟨m, hm⟩ : ∃ m, m = k - i1 := ⟨_, rfl⟩
              have hmi : (k : Int) - (i1 : Int) = (m : Int) := by omega
              have hmk : m < k := by omega
              have hmN : (m : Int) < (N : Int) + 1 := by omega
              obtain ⟨-, hcc, hf⟩ := HR.out.q.at
              have f1 := hf k (by rw [cst_len _ _ hlt]; omega)
              have d1 := hcc k (by rw [cst_len _ _ hlt]; omega)
              have d2 := hcc m (by rw [cst_len _ _ hlt]; omega)
              have c1 := (HR.out.below.cell (p := ⟨gd, od + i1, none⟩) HCD.out.1).trans (HCD.out.2 i1 g1)
              rw [Nat.zero_add] at f1 d1 d2
              rw [cst_low _ _ hmk] at d2
              have hs := HR.out.set (j := k) (by rw [cst_len _ _ hlt]; omega) (IntKind.u64.wrap ((cst num den N k i).getD k 0 - IntKind.u64.wrap (IntKind.u64.wrap (den.getD i1 0) * (coefs num den k).getD m 0)))
              rw [cst_succ num den N k i (by simp only [wrapU_is]; rw [hi1, hm, hi1]), Nat.zero_add, ← hi1] at hs
              generalize den.getD i1 0 = x at c1 hs
              generalize (cst num den N k i).getD k 0 = y at d1 hs
              generalize (coefs num den k).getD m 0 = z at d2 hs
              have HS := Lib.hid hs
              rw [← hi1]
              clear hf hs hcc HR hm hi1
              go_wp2_with fail
              go_region
              all_goals go_wp2_with fail
              all_goals go_roundw
              case rel => exact ⟨i1, by go_num, by have := HI1.out; omega, Lib.hid HS.out.drew⟩
              case measure => simp [intOf]; omega
            · have hEnd : i = min (den.length - 1) k := by omega
              have HE := HR.out
              rw [cst_last _ _ hlt hEnd] at HE
              have HE2 := Lib.hid HE
              rw [← hi1]
              by_cases g1 : i1 < den.length
              · have g1i : (i1 : Int) < (den.length : Int) := by omega
                have g2i : ¬ (i1 : Int) ≤ (k : Int) := by omega
                clear HR HE hEnd hi1 hgo
                go_wp2_with fail
                go_roundw
                case rel => exact ⟨k + 1, by go_num, by omega, HE2⟩
                case measure => simp [intOf]; omega
              · have g1i : ¬ (i1 : Int) < (den.length : Int) := by omega
                clear HR HE hEnd hi1 hgo
                go_wp2_with fail
                go_roundw
                case rel => exact ⟨k + 1, by go_num, by omega, HE2⟩
                case measure => simp [intOf]; omega
      · obtain rfl : k = N + 1 := by omega
        obtain ⟨-, hcc, -⟩ := HQ.out.q.at
        have d1 := hcc N (by rw [crow_len _ _ hk]; omega)
        have e : (crow num den N (N + 1)).getD N 0 = coefAt num den (coefs num den N) N := by
          unfold crow
          rw [Nat.sub_self, List.replicate_zero, List.append_nil]
          exact coefs_at (by omega)
        rw [Nat.zero_add, e] at d1
        obtain ⟨x, hx⟩ : ∃ x, x = coefAt num den (coefs num den N) N := ⟨_, rfl⟩
        rw [← hx] at d1
        have HX := Lib.hid hx
        clear hx
        have hnlt : ¬ ((N + 1 : Nat) : Int) < (N : Int) + 1 := by omega
        clear hcc e
        have HF := Lib.hid (HB2.out.trans (HQ.out.below.mono HB2.out.size))
        go_wp2_with fail
        go_ret2
        exact ⟨by rw [← HX.out]; rfl, HF.out⟩
  · have hcv : countVal a b c n = 0 := by unfold countVal; rw [if_pos hr]
    rw [hcv]
    have hsm : (ringErr a b c n 1000 != 0) = true := by rw [bne_iff_ne]; exact hr
    generalize ringErr a b c n 1000 = er at *
    clear hcv hr
    unfold ordersV at *
    go_enter Try.func13, Try.ntmps13
    go_upto_region 1 with fail
    generalize w.alloc (.cells #[.int .i64 a, .int .i64 b, .int .i64 c] 23) = W0 at *
    have k0 := cell_of_heap HQ0.out 0
    have k1 := cell_of_heap HQ0.out 1
    have k2 := cell_of_heap HQ0.out 2
    simp at k0 k1 k2
    go_wp2_with fail
    refine (HRG.out _).mono ?_
    rintro e w1 ⟨rfl, hB1⟩
    have HB1 := Lib.hid (HB0.out.trans (hB1.mono HB0.out.size))
    clear k0 k1 k2 hB1
    go_wp2_with fail
    go_ret2
    exact ⟨rfl, HB1.out⟩
end Go.Proofs.Ytdckpjagmbdkgaa
