/- The reference's IsRing at the words of a ring. -/
import Derived.Test.YtdckpjagmbdkgaaS45
import Derived.Test.YtdckpjagmbdkgaaRing
namespace Go.Proofs.Ytdckpjagmbdkgaa
set_option linter.unusedSimpArgs false
set_option linter.unusedVariables false
open Go.RowKit
open Hy (Lets IsNF)

set_option maxRecDepth 100000 in
set_option maxHeartbeats 4000000 in
theorem r04_IsRing {o : Hy.Ord} (F : Hy.Fine o) (hS : Small o) {n : Nat} (hn : n ≤ 60) {w : World} {v : Value} {l : List (List UInt8)} (hv : GQ w v (l.map str)) (hl : l.length ≤ 1000000000)
    (hw : ∀ x ∈ l, x.length = n ∧ Lets x ∧ IsNF o x x) (hp : l.Pairwise (fun a b => Hy.less a b = true)) :
    Calls Try.prog 12 #[ordersV o.m01 o.m12 o.m02, v, .int .i64 n] w fun e w' => e = .returned (.bool true) ∧ Below w.heap.size w w' := by
  obtain ⟨a1, c1, h1, hc1⟩ := hv.open
  have hlt1 := hv.lt
  rw [List.length_map] at h1
  subst h1
  have HC1 := Lib.hid (show ∀ i x, l[i]? = some x → ∃ g off, a1 = some ⟨g, off, none⟩ ∧ g < w.heap.size ∧ w.cell? ⟨g, off + i, none⟩ = some (.string ⟨x.toArray⟩) from fun i x hi => by
    obtain ⟨g, off, e1, e2⟩ := hc1 i (str x) (by rw [List.getElem?_map, hi]; rfl)
    exact ⟨g, off, e1, hlt1 g (by rw [e1]; rfl), e2⟩)
  have HWD := Lib.hid (fun x (hx : x ∈ l) (W : World) => r03_Word_nf F hS (hw x hx).2.1 (by have := (hw x hx).1; omega) (hw x hx).2.2 W)
  have HCK := Lib.hid (fun x (hx : x ∈ l) (W : World) => show Calls Try.prog 18 #[str x] W fun e w' => e = .returned (.int .i64 0) ∧ Below W.heap.size W w' from by
    have := r03_CheckWord x W (by have := (hw x hx).1; omega)
    rw [wordErr_lets (hw x hx).2.1 (by have := (hw x hx).1; omega)] at this
    exact this)
  have HLEN := Lib.hid (fun x (hx : x ∈ l) => (hw x hx).1)
  have HP := Lib.hid (fun i x y (hx : l[i]? = some x) (hy : l[i + 1]? = some y) => show Op.bytesLess x y = true from by
    rw [less_eq]
    obtain ⟨h1, rfl⟩ := List.getElem?_eq_some_iff.1 hx
    obtain ⟨h2, rfl⟩ := List.getElem?_eq_some_iff.1 hy
    exact List.pairwise_iff_getElem.1 hp i (i + 1) h1 h2 (by omega))
  have q0 := World.alloc_heap_new w (.cells #[.int .i64 o.m01, .int .i64 o.m12, .int .i64 o.m02] 23)
  have HQ0 := Lib.hid q0
  have HB0 := Lib.hid ((Below.refl w.heap.size w).alloc (Nat.le_refl _) (.cells #[.int .i64 o.m01, .int .i64 o.m12, .int .i64 o.m02] 23))
  clear hv hc1 hlt1 hw hp q0 F hS
  unfold ordersV str at *
  go_enter Try.func12, Try.ntmps12
  go_upto_region 1 with fail
  generalize w.alloc (.cells #[.int .i64 o.m01, .int .i64 o.m12, .int .i64 o.m02] 23) = W0 at *
  have lk0 : w.heap.size < W0.heap.size := (Array.getElem?_eq_some_iff.1 HQ0.out).1
  have k0 := cell_of_heap HQ0.out 0
  have k1 := cell_of_heap HQ0.out 1
  have k2 := cell_of_heap HQ0.out 2
  simp at k0 k1 k2
  have HK := Lib.hid (And.intro k0 (And.intro k1 k2))
  clear k0 k1 k2
  go_wp2_with fail
  go_loopw [7] (fun iv wr => ∃ i : Nat, iv = .int .i64 i ∧ i ≤ l.length ∧ Hid (Below W0.heap.size W0 wr)) (fun iv _ => l.length - (intOf iv).toNat)
  case atStart => exact ⟨0, rfl, Nat.zero_le _, Lib.hid (Below.refl _ _)⟩
  case round =>
    obtain ⟨i, rfl, hi, HB⟩ := hrel
    by_cases hil : i < l.length
    · have hii : (i : Int) < (l.length : Int) := by omega
      obtain ⟨x, hx⟩ : ∃ x, l[i]? = some x := ⟨l[i], List.getElem?_eq_getElem hil⟩
      obtain ⟨g, off, rfl, hg, e1⟩ := HC1.out i x hx
      have hxl : x.length = n := HLEN.out x (List.mem_of_getElem? hx)
      have HCX := Lib.hid (HCK.out x (List.mem_of_getElem? hx))
      have HWX := Lib.hid (HWD.out x (List.mem_of_getElem? hx))
      have LX := fun (y : Later wr) => ((HB0.out.trans ((HB.out.trans (y.h.mono HB.out.size)).mono HB0.out.size)).cell (p := ⟨g, off + i, none⟩) hg).trans e1
      have l0 := fun (y : Later wr) => ((HB.out.trans (y.h.mono HB.out.size)).cell (p := ⟨w.heap.size, 0, none⟩) lk0).trans HK.out.1
      have l1 := fun (y : Later wr) => ((HB.out.trans (y.h.mono HB.out.size)).cell (p := ⟨w.heap.size, 1, none⟩) lk0).trans HK.out.2.1
      have l2 := fun (y : Later wr) => ((HB.out.trans (y.h.mono HB.out.size)).cell (p := ⟨w.heap.size, 2, none⟩) lk0).trans HK.out.2.2
      have hxi : (x.length : Int) = (n : Int) := by omega
      go_upto_region 4 with fail
      go_cut [44] (fun s wx => s = .bool false ∧ Hid (Below wr.heap.size wr wx))
      case first =>
        by_cases h0 : 0 < i
        · have h0i : (0 : Int) < (i : Int) := by omega
          obtain ⟨j, rfl⟩ : ∃ j, i = j + 1 := ⟨i - 1, by omega⟩
          obtain ⟨x1, hx1⟩ : ∃ x1, l[j]? = some x1 := ⟨l[j], List.getElem?_eq_getElem (by omega)⟩
          obtain ⟨g', off', he, _, e2⟩ := HC1.out j x1 hx1
          simp only [Option.some.injEq, Addr.mk.injEq, and_true] at he
          obtain ⟨rfl, rfl⟩ := he
          have LX1 := fun (y : Later wr) => ((HB0.out.trans ((HB.out.trans (y.h.mono HB.out.size)).mono HB0.out.size)).cell (p := ⟨g, off + j, none⟩) hg).trans e2
          have hbl := HP.out j x1 x hx1 hx
          have hji : ((j + 1 : Nat) : Int) - 1 = (j : Int) := by omega
          have hjl : (j : Int) < (l.length : Int) := by omega
          clear hx1 hx
          generalize hgi : j + 1 = i at *
          refine wp_region_later (by kernel_rfl) (by kernel_rfl) ?_
          repeat (go_big_quiet_step ((first | (go_at_call 18; refine (HCX.out _).mono ?_; rintro e w6 ⟨rfl, hB6⟩; exact ⟨rfl, ⟨w6, (Later.h _).trans (hB6.mono (Later.h _).size)⟩, rfl⟩))))
          refine wpQuiet_nil ?_
          rintro _ ⟨pl, rfl⟩
          go_wp2_with fail
          go_meet
          exact ⟨rfl, Lib.hid pl.h⟩
        · have h0i : ¬ (0 : Int) < (i : Int) := by omega
          refine wp_region_later (by kernel_rfl) (by kernel_rfl) ?_
          repeat (go_big_quiet_step ((first | (go_at_call 18; refine (HCX.out _).mono ?_; rintro e w6 ⟨rfl, hB6⟩; exact ⟨rfl, ⟨w6, (Later.h _).trans (hB6.mono (Later.h _).size)⟩, rfl⟩))))
          refine wpQuiet_nil ?_
          rintro _ ⟨pl, rfl⟩
          go_wp2_with fail
          go_meet
          exact ⟨rfl, Lib.hid pl.h⟩
      case rest =>
        obtain ⟨rfl, HX⟩ := hcut
        clear LX l0 l1 l2
        have HB1 := Lib.hid (HB.out.trans (HX.out.mono HB.out.size))
        have LX := fun (y : Later wc) => ((HB0.out.trans ((HB1.out.trans (y.h.mono HB1.out.size)).mono HB0.out.size)).cell (p := ⟨g, off + i, none⟩) hg).trans e1
        have l0 := fun (y : Later wc) => ((HB1.out.trans (y.h.mono HB1.out.size)).cell (p := ⟨w.heap.size, 0, none⟩) lk0).trans HK.out.1
        have l1 := fun (y : Later wc) => ((HB1.out.trans (y.h.mono HB1.out.size)).cell (p := ⟨w.heap.size, 1, none⟩) lk0).trans HK.out.2.1
        have l2 := fun (y : Later wc) => ((HB1.out.trans (y.h.mono HB1.out.size)).cell (p := ⟨w.heap.size, 2, none⟩) lk0).trans HK.out.2.2
        go_upto_region 6 with fail
        refine wp_region_later (by kernel_rfl) (by kernel_rfl) ?_
        repeat (go_big_quiet_step ((first | (go_at_call 16; refine (HWX.out _).mono ?_; rintro e w6 ⟨rfl, hB6⟩; exact ⟨rfl, ⟨w6, (Later.h _).trans (hB6.mono (Later.h _).size)⟩, rfl⟩))))
        refine wpQuiet_nil ?_
        rintro _ ⟨pl, rfl⟩
        clear LX l0 l1 l2
        have hrr : (x != x) = false := by simp
        go_wp2_with fail
        go_roundw
        case rel => exact ⟨i + 1, by go_num, by omega, Lib.hid (HB1.out.trans (pl.h.mono HB1.out.size))⟩
        case measure => simp [intOf]; omega
    · obtain rfl : i = l.length := by omega
      go_wp2_with fail
      go_returns
      exact ⟨rfl, HB0.out.trans (HB.out.mono HB0.out.size)⟩
end Go.Proofs.Ytdckpjagmbdkgaa
