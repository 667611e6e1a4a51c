/- The law TilesCorners over the program: it returns true. -/
import Derived.Test.YtdckpjagmbdkgaaSn1
import Derived.Test.YtdckpjagmbdkgaaS47
namespace Go.Proofs.Ytdckpjagmbdkgaa
set_option linter.unusedSimpArgs false
set_option linter.unusedVariables false
open Go.RowKit
open Hy (Lets IsNF nfw aroundW)

set_option maxRecDepth 100000 in
set_option maxHeartbeats 4000000 in
theorem law_cor_err (a b c : Int) (u : List UInt8) (mi i : Int) (hlu : u.length ≤ 9223372036854775807) (he : cornErr a b c u mi ≠ 0) (w : World) :
    Calls Try.prog 7 #[ordersV a b c, str u, .int .i64 mi, .int .i64 i] w fun e w' => e = .returned (.bool true) ∧ Below w.heap.size w w' := by
  have HASK := Lib.hid (fun W => r04_Asked a b c u mi hlu W)
  have HFST := Lib.hid (fun W => t04_First a b c u mi W hlu)
  have HARO := Lib.hid (fun W => t04_Around_err a b c u mi W hlu he)
  have HSANE := Lib.hid (fun W' => sane4 W')
  rw [if_neg he] at HFST
  have he' : (cornErr a b c u mi != 0) = true := by rw [bne_iff_ne]; exact he
  have q0 := World.alloc_heap_new w (.cells #[.int .i64 a, .int .i64 b, .int .i64 c] 23)
  have HQ0 := Lib.hid q0
  have HB0 := Lib.hid ((Below.refl w.heap.size w).alloc (Nat.le_refl _) (.cells #[.int .i64 a, .int .i64 b, .int .i64 c] 23))
  generalize cornErr a b c u mi = er at *
  clear he q0 hlu
  unfold ordersV str at *
  go_enter Try.func7, Try.ntmps7
  go_upto_region 1 with fail
  generalize w.alloc (.cells #[.int .i64 a, .int .i64 b, .int .i64 c] 23) = W0 at *
  have lk0 : w.heap.size < W0.heap.size := (Array.getElem?_eq_some_iff.1 HQ0.out).1
  have k0 := cell_of_heap HQ0.out 0
  have k1 := cell_of_heap HQ0.out 1
  have k2 := cell_of_heap HQ0.out 2
  simp at k0 k1 k2
  have HK := Lib.hid (And.intro k0 (And.intro k1 k2))
  go_wp2_with fail
  refine (HASK.out _).mono ?_
  rintro e w1 ⟨rfl, hB⟩
  have HB1 := Lib.hid hB
  have c0 := (HB1.out.cell (p := ⟨w.heap.size, 0, none⟩) lk0).trans HK.out.1
  have c1 := (HB1.out.cell (p := ⟨w.heap.size, 1, none⟩) lk0).trans HK.out.2.1
  have c2 := (HB1.out.cell (p := ⟨w.heap.size, 2, none⟩) lk0).trans HK.out.2.2
  clear hB k0 k1 k2
  go_wp2_with fail
  refine (HFST.out _).mono ?_
  rintro e w2 ⟨rfl, hB⟩
  have HB2 := Lib.hid (HB1.out.trans (hB.mono HB1.out.size))
  have c0 := (HB2.out.cell (p := ⟨w.heap.size, 0, none⟩) lk0).trans HK.out.1
  have c1 := (HB2.out.cell (p := ⟨w.heap.size, 1, none⟩) lk0).trans HK.out.2.1
  have c2 := (HB2.out.cell (p := ⟨w.heap.size, 2, none⟩) lk0).trans HK.out.2.2
  clear hB
  go_wp2_with fail
  refine (HARO.out _).mono ?_
  rintro e w3 ⟨rfl, hB⟩
  have HB3 := Lib.hid (HB2.out.trans (hB.mono HB2.out.size))
  clear hB c0 c1 c2
  go_wp2_with fail
  refine (HSANE.out _).mono ?_
  rintro e w4 ⟨rfl, hB⟩
  have HB4 := Lib.hid (HB3.out.trans (hB.mono HB3.out.size))
  clear hB
  go_wp2_with fail
  go_returns
  exact ⟨rfl, HB0.out.trans (HB4.out.mono HB0.out.size)⟩

theorem corner_parts {o : Hy.Ord} {u : List UInt8} {mi : Int} (he : cornErr o.m01 o.m12 o.m02 u mi = 0) : Hy.allErr o.m01 o.m12 o.m02 [u] = 0 ∧ ∃ m : Nat, mi = (m : Int) ∧ m ≤ 2 ∧ 0 < o.m (fstM m) (sndM m) := by
  have e0 : Hy.toOrd o.m01 o.m12 o.m02 = o := by cases o; simp [Hy.toOrd]
  unfold cornErr at he
  rw [e0] at he
  by_cases h1 : Hy.allErr o.m01 o.m12 o.m02 [u] = 0
  · rw [if_neg (by simp [h1])] at he
    by_cases h2 : mi < 0 ∨ 2 < mi
    · rw [if_pos h2] at he; cases he
    · rw [if_neg h2] at he
      by_cases h3 : o.m (fstM mi.toNat) (sndM mi.toNat) = 0
      · rw [if_pos h3] at he; cases he
      · exact ⟨h1, mi.toNat, by omega, by omega, by omega⟩
  · rw [if_pos h1] at he; exact absurd he h1

set_option maxRecDepth 100000 in
set_option maxHeartbeats 4000000 in
theorem law_cor_ok (o : Hy.Ord) (u : List UInt8) (m : Nat) (i : Int) (hi : -9223372036854775808 ≤ i ∧ i ≤ 9223372036854775807) (he : Hy.allErr o.m01 o.m12 o.m02 [u] = 0) (hm : m ≤ 2) (hM : 0 < o.m (fstM m) (sndM m)) (w : World) :
    Calls Try.prog 7 #[ordersV o.m01 o.m12 o.m02, str u, .int .i64 m, .int .i64 i] w fun e w' => e = .returned (.bool true) ∧ Below w.heap.size w w' := by
  have ho := allErr_ord he
  have F : Hy.Fine o := Hy.fine_of ho
  have h9 := Hy.ordErr_zero ho
  have hS : Small o := ⟨by omega, by omega, by omega⟩
  have hle := he
  rw [Hy.allErr_ok ho, Hy.wordsErr_one] at hle
  have hu := lets_of_err hle
  have hul := (Hy.wordErr_letters hle).2
  have fs := fst_snd m
  have hce : cornErr o.m01 o.m12 o.m02 u m = 0 := by
    have e0 : Hy.toOrd o.m01 o.m12 o.m02 = o := by cases o; simp [Hy.toOrd]
    unfold cornErr
    rw [if_neg (by simp [he]), if_neg (by omega), e0, Int.toNat_natCast, if_neg (by omega)]
  have HASK := Lib.hid (fun W => r04_Asked o.m01 o.m12 o.m02 u m (by omega) W)
  have HFST := Lib.hid (fun W => t04_First o.m01 o.m12 o.m02 u m W (by omega))
  rw [hce] at HASK HFST
  have haro : aroundOf o.m01 o.m12 o.m02 u m = aroundW o u (fstM m) (sndM m) := by
    have e0 : Hy.toOrd o.m01 o.m12 o.m02 = o := by cases o; simp [Hy.toOrd]
    unfold aroundOf
    rw [e0, Int.toNat_natCast]
  rw [haro] at HFST
  simp only [if_true] at HFST
  have HARO := Lib.hid (fun W => t04_Around_ok o u m W he hm hM)
  have HREF := Lib.hid (fun W => r04_Around F hS u hu hul m hm hM W)
  obtain ⟨A, hA⟩ : ∃ A, A = aroundW o u (fstM m) (sndM m) := ⟨_, rfl⟩
  rw [← hA] at HFST HARO HREF
  have hAL : A.length = 2 * o.m (fstM m) (sndM m) := by rw [hA]; exact Hy.length_aroundW
  have h12 := order_small hS (fstM m) (sndM m)
  have HAL := Lib.hid (show 0 < A.length ∧ A.length ≤ 24 from by omega)
  obtain ⟨x0, hx0⟩ : ∃ x0, A[0]? = some x0 := ⟨A[0]'(HAL.out.1), List.getElem?_eq_getElem HAL.out.1⟩
  have hh : A.headD [] = x0 := by
    cases A with
    | nil => simp at hx0
    | cons a l => simpa using hx0
  rw [hh] at HFST
  have HX0 := Lib.hid hx0
  have HSAME := Lib.hid (fun (x : List UInt8) (hx : x ∈ A) (hxl : x.length ≤ 60) (W : World) => show Calls Try.prog 23 #[ordersV o.m01 o.m12 o.m02, str x, .int .i64 m] W fun e w' => ∃ v, e = .returned (.tuple #[v, .int .i64 0]) ∧ GQ w' v (A.map str) ∧ (∀ b, v.ownBlock = some b → W.heap.size ≤ b) ∧ Below W.heap.size W w' from by
    obtain ⟨h1, h2, _⟩ := Hy.around_same F fs.1 fs.2.1 fs.2.2 hM hu (by omega) (v := x) (by rw [← hA]; exact hx)
    have := t04_Around_ok o x m W (allErr_mk1 ho (wordErr_lets h2 hxl)) hm hM
    rw [h1, ← hA] at this
    exact this)
  have HSW := Lib.hid (fun (W : World) (va vb : Value) (h1 : GQ W va (A.map str)) (h2 : GQ W vb (A.map str)) => show Calls Try.prog 25 #[va, vb] W fun e w' => e = .returned (.bool true) ∧ Below W.heap.size W w' from by
    have := r04_SameWords h1 h2 (by omega) (by omega)
    rw [show decide (A = A) = true from by simp] at this
    exact this)
  have HSANE := Lib.hid (fun W' => sane4 W')
  have q0 := World.alloc_heap_new w (.cells #[.int .i64 o.m01, .int .i64 o.m12, .int .i64 o.m02] 23)
  have HQ0 := Lib.hid q0
  have HB0 := Lib.hid ((Below.refl w.heap.size w).alloc (Nat.le_refl _) (.cells #[.int .i64 o.m01, .int .i64 o.m12, .int .i64 o.m02] 23))
  clear q0 he ho F h9 hS hle hu hul fs hce haro hAL h12 hA hM hx0 hh
  unfold ordersV str at *
  go_enter Try.func7, Try.ntmps7
  go_upto_region 1 with fail
  generalize w.alloc (.cells #[.int .i64 o.m01, .int .i64 o.m12, .int .i64 o.m02] 23) = W0 at *
  have lk0 : w.heap.size < W0.heap.size := (Array.getElem?_eq_some_iff.1 HQ0.out).1
  have k0 := cell_of_heap HQ0.out 0
  have k1 := cell_of_heap HQ0.out 1
  have k2 := cell_of_heap HQ0.out 2
  simp at k0 k1 k2
  have HK := Lib.hid (And.intro k0 (And.intro k1 k2))
  go_wp2_with fail
  refine (HASK.out _).mono ?_
  rintro e w1 ⟨rfl, hB⟩
  have HB1 := Lib.hid hB
  have c0 := (HB1.out.cell (p := ⟨w.heap.size, 0, none⟩) lk0).trans HK.out.1
  have c1 := (HB1.out.cell (p := ⟨w.heap.size, 1, none⟩) lk0).trans HK.out.2.1
  have c2 := (HB1.out.cell (p := ⟨w.heap.size, 2, none⟩) lk0).trans HK.out.2.2
  clear hB k0 k1 k2
  go_wp2_with fail
  refine (HFST.out _).mono ?_
  rintro e w2 ⟨rfl, hB⟩
  have HB2 := Lib.hid (HB1.out.trans (hB.mono HB1.out.size))
  have c0 := (HB2.out.cell (p := ⟨w.heap.size, 0, none⟩) lk0).trans HK.out.1
  have c1 := (HB2.out.cell (p := ⟨w.heap.size, 1, none⟩) lk0).trans HK.out.2.1
  have c2 := (HB2.out.cell (p := ⟨w.heap.size, 2, none⟩) lk0).trans HK.out.2.2
  clear hB
  go_wp2_with fail
  refine (HARO.out _).mono ?_
  rintro e w3 ⟨v3, rfl, hq3, ho3, hB⟩
  have HV3 := Lib.hid hq3
  have HB3 := Lib.hid (HB2.out.trans (hB.mono HB2.out.size))
  have c0 := (HB3.out.cell (p := ⟨w.heap.size, 0, none⟩) lk0).trans HK.out.1
  have c1 := (HB3.out.cell (p := ⟨w.heap.size, 1, none⟩) lk0).trans HK.out.2.1
  have c2 := (HB3.out.cell (p := ⟨w.heap.size, 2, none⟩) lk0).trans HK.out.2.2
  clear hB hq3 ho3
  go_wp2_with fail
  refine (HREF.out _).mono ?_
  rintro e w4 ⟨v4, rfl, hq4, ho4, hB⟩
  have HV3 := Lib.hid (HV3.out.later hB)
  have HB4 := Lib.hid (HB3.out.trans (hB.mono HB3.out.size))
  obtain ⟨a0, c0', hv, hcells⟩ := hq4.open
  obtain ⟨L, hLL⟩ : ∃ L, L = (A.map str).length := ⟨_, rfl⟩
  have hLC : L = A.length := by rw [hLL]; simp
  have hv2 : v4 = .slice a0 L c0' := by rw [hv, hLL]; rfl
  clear hv
  subst hv2
  obtain ⟨g, off, ha, hcell0⟩ := hcells 0 (str x0) (by
    have : (A.map str)[0]? = some (str x0) := by rw [List.getElem?_map, HX0.out]; rfl
    exact this)
  subst ha
  have HCELLS := Lib.hid (fun (k : Nat) (x : List UInt8) (hk : A[k]? = some x) => show w4.cell? ⟨g, off + k, none⟩ = some (str x) from by
    obtain ⟨g', off', e, h⟩ := hcells k (str x) (by
      have : (A.map str)[k]? = some (str x) := by rw [List.getElem?_map, hk]; rfl
      exact this)
    simp only [Option.some.injEq, Addr.mk.injEq, and_true] at e
    obtain ⟨rfl, rfl⟩ := e
    exact h)
  have HV4 := Lib.hid hq4
  have HLC := Lib.hid hLC
  have hLi : (0 : Int) < (L : Int) := by have := HAL.out; omega
  have p0 := hcell0
  unfold str at p0
  rw [Nat.add_zero] at p0
  have HGL := Lib.hid (hq4.lt g rfl)
  clear hB hq4 ho4 hcells hLL hLC hcell0 c0 c1 c2
  go_wp2_with fail
  refine (HSW.out _ _ _ HV3.out HV4.out).mono ?_
  rintro e w5 ⟨rfl, hB⟩
  have HB5 := Lib.hid (HB4.out.trans (hB.mono HB4.out.size))
  have HV5 := Lib.hid (HV4.out.later hB)
  have HCE5 := Lib.hid (fun (k : Nat) (x : List UInt8) (hk : A[k]? = some x) => show w5.cell? ⟨g, off + k, none⟩ = some (str x) from (hB.cell (p := ⟨g, off + k, none⟩) HGL.out).trans (HCELLS.out k x hk))
  have hgl5 : g < w5.heap.size := Nat.lt_of_lt_of_le HGL.out hB.size
  clear hB p0
  have hlc := HLC.out
  by_cases h1 : i < 0
  · go_wp2_with fail
    refine (HSANE.out _).mono ?_
    rintro e w6 ⟨rfl, hB⟩
    have HB6 := Lib.hid (HB5.out.trans (hB.mono HB5.out.size))
    clear hB
    go_wp2_with fail
    go_returns
    exact ⟨rfl, HB0.out.trans (HB6.out.mono HB0.out.size)⟩
  · by_cases h2 : (L : Int) ≤ i
    · go_wp2_with fail
      refine (HSANE.out _).mono ?_
      rintro e w6 ⟨rfl, hB⟩
      have HB6 := Lib.hid (HB5.out.trans (hB.mono HB5.out.size))
      clear hB
      go_wp2_with fail
      go_returns
      exact ⟨rfl, HB0.out.trans (HB6.out.mono HB0.out.size)⟩
    · obtain ⟨k, rfl⟩ : ∃ k : Nat, i = (k : Int) := ⟨i.toNat, by omega⟩
      have hkL : k < A.length := by omega
      have hki : (k : Int) < (L : Int) := by omega
      obtain ⟨x, hx⟩ : ∃ x, A[k]? = some x := ⟨A[k], List.getElem?_eq_getElem hkL⟩
      have ck := HCE5.out k x hx
      unfold str at ck
      by_cases h3 : 60 < x.length
      · have h3i : (60 : Int) < (x.length : Int) := by omega
        go_wp2_with fail
        refine (HSANE.out _).mono ?_
        rintro e w6 ⟨rfl, hB⟩
        have HB6 := Lib.hid (HB5.out.trans (hB.mono HB5.out.size))
        clear hB
        go_wp2_with fail
        go_returns
        exact ⟨rfl, HB0.out.trans (HB6.out.mono HB0.out.size)⟩
      · have h3i : ¬ (60 : Int) < (x.length : Int) := by omega
        have HAX := Lib.hid (fun W => HSAME.out x (List.mem_of_getElem? hx) (by omega) W)
        have hb12 := HAL.out
        clear hx
        have q0 := (HB5.out.cell (p := ⟨w.heap.size, 0, none⟩) lk0).trans HK.out.1
        have q1 := (HB5.out.cell (p := ⟨w.heap.size, 1, none⟩) lk0).trans HK.out.2.1
        have q2 := (HB5.out.cell (p := ⟨w.heap.size, 2, none⟩) lk0).trans HK.out.2.2
        have lk5 : w.heap.size < w5.heap.size := Nat.lt_of_lt_of_le lk0 HB5.out.size
        go_upto_region 11 with fail
        go_cut [15, 16] (fun s15 s16 wx => s16 = .int .i64 0 ∧ Hid (GQ wx s15 (A.map str)) ∧ Hid (Below w5.heap.size w5 wx))
        case first =>
          go_region_held3 (fun w' => w'.cell? ⟨w.heap.size, 0, none⟩ = some (.int .i64 o.m01) ∧ w'.cell? ⟨w.heap.size, 1, none⟩ = some (.int .i64 o.m12) ∧ w'.cell? ⟨w.heap.size, 2, none⟩ = some (.int .i64 o.m02) ∧ w'.cell? ⟨g, off + k, none⟩ = some (.string ⟨x.toArray⟩))
            (first | go_keep | (with_reducible (exact ⟨q0, q1, q2, ck⟩)) | (with_reducible (exact ⟨p0, p1, p2, pk⟩)))
            ((first | (go_at_call 23; refine (HAX.out _).mono ?_; rintro e w6 ⟨v6, rfl, hq6, ho6, hB6⟩; obtain ⟨hc6, hf6⟩ := bcell hB6; have p0 : w6.cell? ⟨w.heap.size, 0, none⟩ = some (.int .i64 o.m01) := (hc6 _ _ lk5).trans q0; have p1 : w6.cell? ⟨w.heap.size, 1, none⟩ = some (.int .i64 o.m12) := (hc6 _ _ lk5).trans q1; have p2 : w6.cell? ⟨w.heap.size, 2, none⟩ = some (.int .i64 o.m02) := (hc6 _ _ lk5).trans q2; have pk : w6.cell? ⟨g, off + k, none⟩ = some (.string ⟨x.toArray⟩) := (hc6 _ _ hgl5).trans ck; have HB6 := Lib.hid (below_undrew hB6); have HQ6 := Lib.hid hq6; clear hB6 hq6 ho6 hc6 hf6)))
          all_goals go_wp2_with fail
          all_goals go_meet
          case rel => exact ⟨rfl, HQ6, HB6⟩
        case rest =>
          obtain ⟨rfl, HQ6, HB6⟩ := hcut
          clear q0 q1 q2 ck
          go_wp2_with fail
          refine (HSANE.out _).mono ?_
          rintro e w7 ⟨rfl, hB⟩
          have HB7 := Lib.hid (HB5.out.trans ((HB6.out.trans (hB.mono HB6.out.size)).mono HB5.out.size))
          have HV6 := Lib.hid ((HV5.out.later HB6.out).later hB)
          have HQ7 := Lib.hid (HQ6.out.later hB)
          clear hB
          have HSX := Lib.hid (HSW.out w7 _ _ HQ7.out HV6.out)
          rw [hlc] at HSX
          go_wp2_with fail
          refine HSX.out.mono ?_
          rintro e w8 ⟨rfl, hB⟩
          have HB8 := Lib.hid (HB7.out.trans (hB.mono HB7.out.size))
          clear hB
          go_wp2_with fail
          go_returns
          exact ⟨rfl, HB0.out.trans (HB8.out.mono HB0.out.size)⟩
end Go.Proofs.Ytdckpjagmbdkgaa
