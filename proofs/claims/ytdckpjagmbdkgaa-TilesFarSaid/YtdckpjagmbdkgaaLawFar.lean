/- The law TilesFar over the program: it returns true. -/
import Derived.Test.YtdckpjagmbdkgaaSn1
import Derived.Test.YtdckpjagmbdkgaaR6
import Derived.Test.YtdckpjagmbdkgaaS45
namespace Go.Proofs.Ytdckpjagmbdkgaa
set_option linter.unusedSimpArgs false
set_option linter.unusedVariables false
open Go.RowKit
open Hy (Lets IsNF nfw farW)

theorem small_of {a b c : Int} (h : Hy.ordErr a b c = 0) : Small (Hy.toOrd a b c) := by
  obtain ⟨h1, h2, h3⟩ := Hy.ordErr_zero h
  exact ⟨by show a.toNat ≤ 12; omega, by show b.toNat ≤ 12; omega, by show c.toNat ≤ 12; omega⟩

theorem far_is {o : Hy.Ord} {u v : List UInt8} (h : Hy.allErr o.m01 o.m12 o.m02 [u, v] = 0) : farOf o.m01 o.m12 o.m02 u v = farW o u v := by
  obtain ⟨h1, h2, h3⟩ := allErr_two h
  have F : Hy.Fine o := Hy.fine_of h1
  have e : Hy.toOrd o.m01 o.m12 o.m02 = o := by cases o; simp [Hy.toOrd]
  have hl := (Hy.wordErr_letters h2).2
  have hl2 := (Hy.wordErr_letters h3).2
  refine farOf_nf h ?_
  rw [e]
  exact Hy.nfw_is F (Hy.Lets.app.2 ⟨lets_rev (lets_of_err h2), lets_of_err h3⟩) (by simp; omega)

/-- The texts of a call of R03.Errors. -/
theorem texts_two (w : World) (u v : List UInt8) : Texts (w.alloc (.cells #[.string ⟨u.toArray⟩, .string ⟨v.toArray⟩] 9)) (.slice (some ⟨w.heap.size, 0, none⟩) 2 2) [u, v] := by
  have h := alloc_heap_new w (.cells #[.string ⟨u.toArray⟩, .string ⟨v.toArray⟩] 9)
  refine ⟨w.heap.size, 2, rfl, by simp, fun k hk => ?_⟩
  rw [cell_of_heap h]
  have : k = 0 ∨ k = 1 := by simp at hk; omega
  rcases this with rfl | rfl <;> rfl

set_option maxRecDepth 100000 in
set_option maxHeartbeats 4000000 in
theorem law_far_err (a b c : Int) (u v x : List UInt8) (side : Int) (hlu : u.length ≤ 9223372036854775807) (hlv : v.length ≤ 9223372036854775807) (he : Hy.allErr a b c [u, v] ≠ 0) (w : World) :
    Calls Try.prog 5 #[ordersV a b c, str u, str v, str x, .int .i64 side] w fun e w' => e = .returned (.bool true) ∧ Below w.heap.size w w' := by
  have HERR := Lib.hid (fun W sv hs => r03_Errors a b c (w := W) (sv := sv) (ws := [u, v]) hs (by simp) (by simp; omega))
  have HFAR := Lib.hid (fun W => t04_Far a b c u v W hlu hlv)
  have HSANE := Lib.hid (fun W' => sane4 W')
  have HTX := Lib.hid (fun W => texts_two W u v)
  have hf : farOf a b c u v = 0 := by unfold farOf; rw [if_neg he]
  rw [hf] at HFAR
  have he' : (Hy.allErr a b c [u, v] != 0) = true := by rw [bne_iff_ne]; exact he
  have q0 := World.alloc_heap_new w (.cells #[.int .i64 a, .int .i64 b, .int .i64 c] 23)
  have HQ0 := Lib.hid q0
  have HB0 := Lib.hid ((Below.refl w.heap.size w).alloc (Nat.le_refl _) (.cells #[.int .i64 a, .int .i64 b, .int .i64 c] 23))
  generalize Hy.allErr a b c [u, v] = er at *
  clear he hf q0 hlu hlv
  unfold ordersV str at *
  go_enter Try.func5, Try.ntmps5
  go_upto_region 1 with fail
  generalize w.alloc (.cells #[.int .i64 a, .int .i64 b, .int .i64 c] 23) = W0 at *
  have lk0 : w.heap.size < W0.heap.size := (Array.getElem?_eq_some_iff.1 HQ0.out).1
  have k0 := cell_of_heap HQ0.out 0
  have k1 := cell_of_heap HQ0.out 1
  have k2 := cell_of_heap HQ0.out 2
  simp at k0 k1 k2
  have HK := Lib.hid (And.intro k0 (And.intro k1 k2))
  go_wp2_with fail
  refine (HERR.out _ _ (HTX.out W0)).mono ?_
  rintro e w1 ⟨rfl, hB⟩
  have hB1 : Below W0.heap.size W0 w1 := ((Below.refl _ _).alloc (Nat.le_refl _) _).trans (hB.mono (by simp))
  have HB1 := Lib.hid hB1
  clear hB hB1 k0 k1 k2
  have c0 := (HB1.out.cell (p := ⟨w.heap.size, 0, none⟩) lk0).trans HK.out.1
  have c1 := (HB1.out.cell (p := ⟨w.heap.size, 1, none⟩) lk0).trans HK.out.2.1
  have c2 := (HB1.out.cell (p := ⟨w.heap.size, 2, none⟩) lk0).trans HK.out.2.2
  go_wp2_with fail
  refine (HFAR.out _).mono ?_
  rintro e w2 ⟨rfl, hB⟩
  have HB2 := Lib.hid (HB1.out.trans (hB.mono HB1.out.size))
  clear hB c0 c1 c2
  go_wp2_with fail
  refine (HSANE.out _).mono ?_
  rintro e w3 ⟨rfl, hB⟩
  have HB3 := Lib.hid (HB2.out.trans (hB.mono HB2.out.size))
  clear hB
  go_wp2_with fail
  go_returns
  exact ⟨rfl, HB0.out.trans (HB3.out.mono HB0.out.size)⟩

set_option maxRecDepth 100000 in
set_option maxHeartbeats 4000000 in
theorem law_far_ok (o : Hy.Ord) (u v x : List UInt8) (side : Int) (hlx : x.length ≤ 9223372036854775807) (hside : -9223372036854775808 ≤ side ∧ side ≤ 9223372036854775807) (he : Hy.allErr o.m01 o.m12 o.m02 [u, v] = 0) (w : World) :
    Calls Try.prog 5 #[ordersV o.m01 o.m12 o.m02, str u, str v, str x, .int .i64 side] w fun e w' => e = .returned (.bool true) ∧ Below w.heap.size w w' := by
  obtain ⟨ho, hu0, hv0⟩ := allErr_two he
  have F : Hy.Fine o := Hy.fine_of ho
  have h9 := Hy.ordErr_zero ho
  have hS : Small o := ⟨by omega, by omega, by omega⟩
  have hu := lets_of_err hu0
  have hv := lets_of_err hv0
  have hul := (Hy.wordErr_letters hu0).2
  have hvl := (Hy.wordErr_letters hv0).2
  have HERR := Lib.hid (fun W sv hs => r03_Errors o.m01 o.m12 o.m02 (w := W) (sv := sv) (ws := [u, v]) hs (by simp) (by simp; omega))
  rw [he] at HERR
  have HFAR : ∀ (p q : List UInt8) (W : World), p.length ≤ 60 → q.length ≤ 61 → Hy.allErr o.m01 o.m12 o.m02 [p, q] = 0 → Calls Try.prog 15 #[ordersV o.m01 o.m12 o.m02, str p, str q] W fun e w' => e = .returned (.tuple #[.int .i64 (farW o p q), .int .i64 0]) ∧ Below W.heap.size W w' := fun p q W hp hq h => by
    have := t04_Far o.m01 o.m12 o.m02 p q W (by omega) (by omega)
    rw [h, far_is h] at this
    exact this
  have hmk : ∀ p q : List UInt8, Lets p → Lets q → p.length ≤ 60 → q.length ≤ 60 → Hy.allErr o.m01 o.m12 o.m02 [p, q] = 0 := fun p q hp hq h1 h2 => allErr_mk ho (wordErr_lets hp h1) (wordErr_lets hq h2)
  have HWORD : ∀ (l : List UInt8) (W : World), Lets l → l.length ≤ 1000 → Calls Try.prog 16 #[ordersV o.m01 o.m12 o.m02, str l] W fun e w' => e = .returned (str (nfw o l)) ∧ Below W.heap.size W w' := fun l W h1 h2 => r03_Word_nf F hS h1 h2 (Hy.nfw_is F h1 h2) W
  have HTURN := Lib.hid (fun W => (r03_Turned u W (by omega)).mono (fun e w' h => And.intro h.1 (show Below W.heap.size W w' from h.2 ▸ Below.refl _ _)))
  have HSANE := Lib.hid (fun W' => sane4 W')
  have HTX := Lib.hid (fun W => texts_two W u v)
  have HCHK := Lib.hid (fun W => r03_CheckWord x W hlx)
  have HUV := Lib.hid (fun W => HFAR u v W (by omega) (by omega) he)
  have HVU := Lib.hid (fun W => HFAR v u W (by omega) (by omega) (hmk v u hv hu (by omega) (by omega)))
  have hsy := Hy.far_symm F hu hv (by omega)
  have hz := Hy.far_zero F hu hv (by omega)
  rw [hsy] at HVU
  obtain ⟨n1, hn1⟩ : ∃ n1, n1 = nfw o (u.reverse ++ v) := ⟨_, rfl⟩
  have hd : farW o u v = n1.length := by rw [hn1]; rfl
  have HW1 := Lib.hid (fun W => HWORD (u.reverse ++ v) W (Hy.Lets.app.2 ⟨lets_rev hu, hv⟩) (by simp; omega))
  have HWG := Lib.hid (fun (p : List UInt8) (hp : Lets p ∧ p.length ≤ 1000) (W : World) => HWORD p W hp.1 hp.2)
  have HPU := Lib.hid (show Lets u ∧ u.length ≤ 1000 from ⟨hu, by omega⟩)
  have HPV := Lib.hid (show Lets v ∧ v.length ≤ 1000 from ⟨hv, by omega⟩)
  rw [← hn1] at HW1
  rw [hd] at HUV HVU hz
  have HN1 := Lib.hid hn1
  have hnl : n1.length ≤ 120 := by
    have := (Hy.nfw_is F (w := u.reverse ++ v) (Hy.Lets.app.2 ⟨lets_rev hu, hv⟩) (by simp; omega)).len
    rw [hn1]; simp at this; omega
  obtain ⟨bz, hbz⟩ : ∃ bz : Bool, bz = decide (nfw o u = nfw o v) := ⟨_, rfl⟩
  have hA : (((n1.length : Nat) : Int) == 0) = bz := by
    rw [hbz, Bool.eq_iff_iff, decide_eq_true_iff, ← hz, beq_iff_eq]
    omega
  have hB : (nfw o u == nfw o v) = bz := by rw [hbz, Bool.eq_iff_iff, beq_iff_eq, decide_eq_true_iff]
  have HA := Lib.hid hA
  have HB := Lib.hid hB
  have HFW := Lib.hid HFAR
  have HMK := Lib.hid hmk
  have HF := Lib.hid F
  have HLU := Lib.hid hu
  have HLV := Lib.hid hv
  have HO := Lib.hid ho
  have HD := Lib.hid hd
  have hadd : ∀ W' : World, (Op.stringOp .add ⟨u.reverse.toArray⟩ ⟨v.toArray⟩).run Try.prog W' = .ok (.string (⟨u.reverse.toArray⟩ ++ ⟨v.toArray⟩)) W' := fun W' => by
    have h2 : IntKind.i64.max = 2 ^ 63 - 1 := rfl
    simp only [Op.stringOp, ByteArray.size, List.size_toArray, h2]
    rw [if_neg (by simp; omega)]
    rfl
  have q0 := World.alloc_heap_new w (.cells #[.int .i64 o.m01, .int .i64 o.m12, .int .i64 o.m02] 23)
  have HQ0 := Lib.hid q0
  have HB0 := Lib.hid ((Below.refl w.heap.size w).alloc (Nat.le_refl _) (.cells #[.int .i64 o.m01, .int .i64 o.m12, .int .i64 o.m02] 23))
  clear q0 he ho F h9 hS hu hv hu0 hv0 HFAR hmk HWORD hsy hz hn1 hd hbz hA hB hlx
  unfold ordersV str at *
  rw [← bytes_add u.reverse v] at HW1
  go_enter Try.func5, Try.ntmps5
  go_upto_region 1 with fail
  generalize w.alloc (.cells #[.int .i64 o.m01, .int .i64 o.m12, .int .i64 o.m02] 23) = W0 at *
  have lk0 : w.heap.size < W0.heap.size := (Array.getElem?_eq_some_iff.1 HQ0.out).1
  have k0 := cell_of_heap HQ0.out 0
  have k1 := cell_of_heap HQ0.out 1
  have k2 := cell_of_heap HQ0.out 2
  simp at k0 k1 k2
  have HK := Lib.hid (And.intro k0 (And.intro k1 k2))
  go_wp2_with fail
  refine (HERR.out _ _ (HTX.out W0)).mono ?_
  rintro e w1 ⟨rfl, hB⟩
  have hB1 : Below W0.heap.size W0 w1 := ((Below.refl _ _).alloc (Nat.le_refl _) _).trans (hB.mono (by simp))
  have HB1 := Lib.hid hB1
  clear hB hB1 k0 k1 k2
  have c0 := (HB1.out.cell (p := ⟨w.heap.size, 0, none⟩) lk0).trans HK.out.1
  have c1 := (HB1.out.cell (p := ⟨w.heap.size, 1, none⟩) lk0).trans HK.out.2.1
  have c2 := (HB1.out.cell (p := ⟨w.heap.size, 2, none⟩) lk0).trans HK.out.2.2
  go_wp2_with fail
  refine (HUV.out _).mono ?_
  rintro e w2 ⟨rfl, hB⟩
  have HB2 := Lib.hid (HB1.out.trans (hB.mono HB1.out.size))
  clear hB c0 c1 c2
  go_upto_region 5 with fail
  have l0 := fun (y : Later w2) => ((HB2.out.trans (y.h.mono HB2.out.size)).cell (p := ⟨w.heap.size, 0, none⟩) lk0).trans HK.out.1
  have l1 := fun (y : Later w2) => ((HB2.out.trans (y.h.mono HB2.out.size)).cell (p := ⟨w.heap.size, 1, none⟩) lk0).trans HK.out.2.1
  have l2 := fun (y : Later w2) => ((HB2.out.trans (y.h.mono HB2.out.size)).cell (p := ⟨w.heap.size, 2, none⟩) lk0).trans HK.out.2.2
  refine wp_region_later (by kernel_rfl) (by kernel_rfl) ?_
  repeat (go_big_quiet_step ((first | (go_at_call 17; refine (HTURN.out _).mono ?_; rintro e w6 ⟨rfl, hB6⟩; exact ⟨rfl, ⟨w6, (Later.h _).trans (hB6.mono (Later.h _).size)⟩, rfl⟩) | (go_at_call 16; refine (HW1.out _).mono ?_; rintro e w7 ⟨rfl, hB7⟩; exact ⟨rfl, ⟨w7, (Later.h _).trans (hB7.mono (Later.h _).size)⟩, rfl⟩))))
  refine wpQuiet_nil ?_
  rintro _ ⟨pl, rfl⟩
  have HB3 := Lib.hid (HB2.out.trans (pl.h.mono HB2.out.size))
  clear l0 l1 l2
  obtain ⟨w3, hw3⟩ : ∃ w3, w3 = pl.W := ⟨_, rfl⟩
  rw [← hw3] at HB3 ⊢
  clear hw3 pl
  have c0 := (HB3.out.cell (p := ⟨w.heap.size, 0, none⟩) lk0).trans HK.out.1
  have c1 := (HB3.out.cell (p := ⟨w.heap.size, 1, none⟩) lk0).trans HK.out.2.1
  have c2 := (HB3.out.cell (p := ⟨w.heap.size, 2, none⟩) lk0).trans HK.out.2.2
  go_wp2_with fail
  refine (HVU.out _).mono ?_
  rintro e w4 ⟨rfl, hB⟩
  have HB4 := Lib.hid (HB3.out.trans (hB.mono HB3.out.size))
  clear hB c0 c1 c2
  go_upto_region 8 with fail
  have l0 := fun (y : Later w4) => ((HB4.out.trans (y.h.mono HB4.out.size)).cell (p := ⟨w.heap.size, 0, none⟩) lk0).trans HK.out.1
  have l1 := fun (y : Later w4) => ((HB4.out.trans (y.h.mono HB4.out.size)).cell (p := ⟨w.heap.size, 1, none⟩) lk0).trans HK.out.2.1
  have l2 := fun (y : Later w4) => ((HB4.out.trans (y.h.mono HB4.out.size)).cell (p := ⟨w.heap.size, 2, none⟩) lk0).trans HK.out.2.2
  have hA := HA.out
  have hB := HB.out
  refine wp_region_later (by kernel_rfl) (by kernel_rfl) ?_
  repeat (go_big_quiet_step ((first | (go_at_call 16; refine (HWG.out _ (by first | exact HPU.out | exact HPV.out) _).mono ?_; rintro e w7 ⟨rfl, hB7⟩; exact ⟨rfl, ⟨w7, (Later.h _).trans (hB7.mono (Later.h _).size)⟩, rfl⟩))))
  refine wpQuiet_nil ?_
  rintro _ ⟨pl, rfl⟩
  have HB5 := Lib.hid (HB4.out.trans (pl.h.mono HB4.out.size))
  clear l0 l1 l2 hA hB
  obtain ⟨w5, hw5⟩ : ∃ w5, w5 = pl.W := ⟨_, rfl⟩
  rw [← hw5] at HB5 ⊢
  clear hw5 pl
  go_wp2_with fail
  refine (HCHK.out _).mono ?_
  rintro e w6 ⟨rfl, hB⟩
  have HB6 := Lib.hid (HB5.out.trans (hB.mono HB5.out.size))
  clear hB
  by_cases hx : Hy.wordErr x = 0
  case neg =>
    have hx' : (Hy.wordErr x != 0) = true := by rw [bne_iff_ne]; exact hx
    go_wp2_with fail
    refine (HSANE.out _).mono ?_
    rintro e w7 ⟨rfl, hB⟩
    have HB7 := Lib.hid (HB6.out.trans (hB.mono HB6.out.size))
    clear hB
    go_wp2_with fail
    go_returns
    exact ⟨rfl, HB0.out.trans (HB7.out.mono HB0.out.size)⟩
  case pos =>
    have hx' : (Hy.wordErr x != 0) = false := by rw [hx]; rfl
    have HLX := Lib.hid (lets_of_err hx)
    have hxl := (Hy.wordErr_letters hx).2
    have HUX := Lib.hid (fun W => HFW.out u x W (by omega) (by omega) (HMK.out u x HLU.out HLX.out (by omega) (by omega)))
    have HXV := Lib.hid (fun W => HFW.out x v W (by omega) (by omega) (HMK.out x v HLX.out HLV.out (by omega) (by omega)))
    have htri := Hy.far_tri HF.out HLU.out HLV.out HLX.out (by omega) (by omega) (by omega)
    rw [HD.out] at htri
    have HXX := Lib.hid hxl
    have hul1 := Hy.nfw_is HF.out (w := u.reverse ++ x) (Hy.Lets.app.2 ⟨lets_rev HLU.out, HLX.out⟩) (by simp; omega) |>.len
    have hul2 := Hy.nfw_is HF.out (w := x.reverse ++ v) (Hy.Lets.app.2 ⟨lets_rev HLX.out, HLV.out⟩) (by simp; omega) |>.len
    have hp1 : farW o u x ≤ 200 := by unfold farW; simp at hul1; omega
    have hp2 : farW o x v ≤ 200 := by unfold farW; simp at hul2; omega
    unfold str at HUX HXV
    generalize farW o u x = p1 at *
    generalize farW o x v = p2 at *
    have hgt : ¬ (p1 : Int) + (p2 : Int) < (n1.length : Int) := by omega
    have c0 := (HB6.out.cell (p := ⟨w.heap.size, 0, none⟩) lk0).trans HK.out.1
    have c1 := (HB6.out.cell (p := ⟨w.heap.size, 1, none⟩) lk0).trans HK.out.2.1
    have c2 := (HB6.out.cell (p := ⟨w.heap.size, 2, none⟩) lk0).trans HK.out.2.2
    clear hx htri hul1 hul2
    go_wp2_with fail
    refine (HUX.out _).mono ?_
    rintro e w7 ⟨rfl, hB⟩
    have HB7 := Lib.hid (HB6.out.trans (hB.mono HB6.out.size))
    have c0 := (HB7.out.cell (p := ⟨w.heap.size, 0, none⟩) lk0).trans HK.out.1
    have c1 := (HB7.out.cell (p := ⟨w.heap.size, 1, none⟩) lk0).trans HK.out.2.1
    have c2 := (HB7.out.cell (p := ⟨w.heap.size, 2, none⟩) lk0).trans HK.out.2.2
    clear hB
    go_wp2_with fail
    refine (HXV.out _).mono ?_
    rintro e w8 ⟨rfl, hB⟩
    have HB8 := Lib.hid (HB7.out.trans (hB.mono HB7.out.size))
    have c0 := (HB8.out.cell (p := ⟨w.heap.size, 0, none⟩) lk0).trans HK.out.1
    have c1 := (HB8.out.cell (p := ⟨w.heap.size, 1, none⟩) lk0).trans HK.out.2.1
    have c2 := (HB8.out.cell (p := ⟨w.heap.size, 2, none⟩) lk0).trans HK.out.2.2
    clear hB
    have hcase : ¬ x.length + u.length ≤ 60 ∨ (x.length + u.length ≤ 60 ∧ ¬ x.length + v.length ≤ 60) ∨ (x.length + u.length ≤ 60 ∧ x.length + v.length ≤ 60) := by omega
    have hb : u.length ≤ 60 ∧ v.length ≤ 60 := ⟨hul, hvl⟩
    rcases hcase with h1 | ⟨h1, h2⟩ | ⟨h1, h2⟩
    have g1 : ¬ (x.length : Int) + (u.length : Int) ≤ 60 := by omega
    rotate_left
    have g1 : (x.length : Int) + (u.length : Int) ≤ 60 := by omega
    have g2 : ¬ (x.length : Int) + (v.length : Int) ≤ 60 := by omega
    rotate_left
    focus
      have g1 : (x.length : Int) + (u.length : Int) ≤ 60 := by omega
      have g2 : (x.length : Int) + (v.length : Int) ≤ 60 := by omega
      have HXU2 := Lib.hid (fun W => HFW.out (x ++ u) (x ++ v) W (by simp; omega) (by simp; omega) (HMK.out (x ++ u) (x ++ v) (Hy.Lets.app.2 ⟨HLX.out, HLU.out⟩) (Hy.Lets.app.2 ⟨HLX.out, HLV.out⟩) (by simp; omega) (by simp; omega)))
      rw [Hy.far_moved HF.out HLU.out HLV.out HLX.out (by simp; omega), HD.out] at HXU2
      have ha1 := fun W => run_add_str (P := Try.prog) x u (by omega) W
      have ha2 := fun W => run_add_str (P := Try.prog) x v (by omega) W
      go_wp2_with fail
      refine (HXU2.out _).mono ?_
      rintro e w8 ⟨rfl, hB⟩
      have HB8 := Lib.hid (HB8.out.trans (hB.mono HB8.out.size))
      clear hB ha1 ha2 HXU2
      go_upto_region 20 with fail
      have c0 := (HB8.out.cell (p := ⟨w.heap.size, 0, none⟩) lk0).trans HK.out.1
      have c1 := (HB8.out.cell (p := ⟨w.heap.size, 1, none⟩) lk0).trans HK.out.2.1
      have c2 := (HB8.out.cell (p := ⟨w.heap.size, 2, none⟩) lk0).trans HK.out.2.2
    rotate_left
    all_goals have hs : side < 0 ∨ (0 ≤ side ∧ 2 < side) ∨ (0 ≤ side ∧ side ≤ 2 ∧ 60 ≤ u.length) ∨ (0 ≤ side ∧ side ≤ 2 ∧ u.length < 60) := by omega
    all_goals rcases hs with s1 | ⟨s1, s2⟩ | ⟨s1, s2, s3⟩ | ⟨s1, s2, s3⟩
    all_goals first
      | (exfalso; omega)
      | (have s3' : ¬ (60 : Int) ≤ (u.length : Int) ∧ 0 ≤ side ∧ side ≤ 2 := by omega
         obtain ⟨t1, t2, t3⟩ := s3'
         obtain ⟨s, rfl⟩ : ∃ s : Nat, side = (s : Int) := ⟨side.toNat, by omega⟩
         have hs3 : s < 3 := by omega
         have hcm : IntKind.u8.wrap (s : Int) = (s : Int) := by simp [IntKind.wrap, IntKind.bits, IntKind.signed]; omega
         have kl := run_letter (w8.alloc (.cells #[.int .u8 s] 5)) w8.heap.size s (by simp)
         have ha1 := fun W => run_add_str (P := Try.prog) u (Hy.letter s) (by simp [Hy.letter]; omega) W
         have HONE := Lib.hid (fun W => HFW.out u (u ++ Hy.letter s) W (by omega) (by simp [Hy.letter]; omega) (HMK.out u (u ++ Hy.letter s) HLU.out (Hy.Lets.app.2 ⟨HLU.out, Hy.lets_letter hs3⟩) (by omega) (by simp [Hy.letter]; omega)))
         rw [Hy.far_one HF.out HLU.out hs3 (by omega)] at HONE
         unfold str at kl
         go_wp2_with fail
         refine (HONE.out _).mono ?_
         rintro e w10 ⟨rfl, hB⟩
         have HB10 := Lib.hid (HB8.out.trans ((((Below.refl w8.heap.size w8).alloc (Nat.le_refl _) (.cells #[.int .u8 s] 5)).trans (hB.mono (by simp))).mono HB8.out.size))
         clear hB
         go_wp2_with fail
         refine (HSANE.out _).mono ?_
         rintro e w11 ⟨rfl, hB⟩
         have HB11 := Lib.hid (HB10.out.trans (hB.mono HB10.out.size))
         clear hB
         go_wp2_with fail
         go_returns
         exact ⟨rfl, HB0.out.trans (HB11.out.mono HB0.out.size)⟩)
      | (go_wp2_with fail
         refine (HSANE.out _).mono ?_
         rintro e w10 ⟨rfl, hB⟩
         have HB10 := Lib.hid (HB8.out.trans (hB.mono HB8.out.size))
         clear hB
         go_wp2_with fail
         go_returns
         exact ⟨rfl, HB0.out.trans (HB10.out.mono HB0.out.size)⟩)
end Go.Proofs.Ytdckpjagmbdkgaa
