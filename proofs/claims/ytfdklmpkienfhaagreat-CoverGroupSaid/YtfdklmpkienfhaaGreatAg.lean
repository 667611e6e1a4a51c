/- The examples of chapter 12, the function sane, and the arguments of its laws. -/
import Derived.Test.YtfdklmpkienfhaaGreatLc
import Derived.Test.YtfdklmpkienfhaaGreatK22
import Derived.Test.YtfdklmpkienfhaaGreatRf
import Derived.Handy
import Derived.Deep.Slices
import Derived.Lib.SmallJoins
import Derived.WalkKit
import Derived.ProofKit
import Derived.OpenShut
import Derived.ShutString

/- The examples of chapter 12 in plain words. -/
namespace Go.Proofs.YtfdklmpkienfhaaGreat
set_option linter.unusedSimpArgs false
set_option linter.unusedVariables false
open Go.RowKit
open Cov (triA backsL pairs1 pairsR pairsT)

instance (A : Nat → List Int) : Decidable (Shaped A) := by unfold Shaped; infer_instance
instance (o : Hy.Ord) (f : Cov.Fn) (n : Nat) : Decidable (Cov.Holds o f n) := by unfold Cov.Holds; infer_instance
instance (o : Hy.Ord) (A : Nat → List Int) : Decidable (Whole o A) := by unfold Whole; infer_instance

/-- All actions of n points, as they are met. -/
def actsT (o : Hy.Ord) (n : Nat) : List (List Int × List Int × List Int) :=
  (backsL n).flatMap fun a => (backsL n).flatMap fun b => (backsL n).flatMap fun c => if Whole o (triA a b c) then [(a, b, c)] else []
def triT (t : List Int × List Int × List Int) : Nat → List Int := triA t.1 t.2.1 t.2.2
theorem actsL_T (o : Hy.Ord) (n : Nat) : actsL o n = (actsT o n).map triT := by
  unfold actsL actsT actA actB actC
  rw [List.map_flatMap]
  congr 1
  funext a
  rw [List.map_flatMap]
  congr 1
  funext b
  rw [List.map_flatMap]
  congr 1
  funext c
  by_cases h : Whole o (triA a b c)
  · rw [if_pos h, if_pos h]; rfl
  · rw [if_neg h, if_neg h]; rfl
theorem subN_T (o : Hy.Ord) (n : Nat) : subN o n = ((actsT o n).foldl (fun kv t => mput (canC (triT t) 0) true kv) ([] : List (List UInt8 × Bool))).length := by
  unfold subN subKV
  rw [List.take_length, actsL_T, List.foldl_map]

theorem ord372 : Hy.ordErr 3 7 2 = 0 := by decide
theorem act_even : actErr 3 7 2 evenA = 0 := actErr_whole ord372 (by decide +kernel) (by decide +kernel)
theorem at_even : atErr 3 7 2 evenA 0 = 0 := by unfold atErr; rw [if_neg (by simpa using act_even), if_pos (by decide)]
theorem words_even : wordCells (letters (canA evenA 0)) 2 2 = [[], [0]].map str := by
  have h : (List.range 2).map (fun m => Cov.W (letters (canA evenA 0)) 2 0 m) = [[], [0]] := by decide +kernel
  unfold wordCells
  rw [← h, List.map_map]
  rfl
theorem not_eqv {o : Hy.Ord} (F : Hy.Fine o) {u v : Hy.Word} (hu : Hy.norm o 10 u = some u) (hv : Hy.norm o 10 v = some v) (lu : Hy.Lets u) (lv : Hy.Lets v) (nu : u.length ≤ 10) (nv : v.length ≤ 10) (h : u ≠ v) : ¬ Hy.Eqv o u v := fun e => by
  have h1 := Hy.norm_some' F lu (by omega) nu hu
  have h2 := Hy.norm_some' F lv (by omega) nv hv
  exact h ((h1.eq_iff h2).2 e)
theorem pairs_even : pairsT (ordN 3 7 2) (letters (canA evenA 0)) 2 2 = [(([], 1), ([0], 1)), (([], 2), ([0], 2))] := by
  have F : Hy.Fine (ordN 3 7 2) := Hy.fine_of ord372
  have hw0 : Cov.W (letters (canA evenA 0)) 2 0 0 = [] := by decide +kernel
  have hw1 : Cov.W (letters (canA evenA 0)) 2 0 1 = [0] := by decide +kernel
  have hf : ∀ i, i < 3 → letters (canA evenA 0) i 0 = 1 ∧ letters (canA evenA 0) i 1 = 0 := by decide +kernel
  have e0 : pairs1 (ordN 3 7 2) (letters (canA evenA 0)) 2 0 0 = [] := by
    unfold pairs1
    rw [(hf 0 (by omega)).1, hw0, hw1, if_neg (fun h => h.2 (.refl _))]
  have e1 : pairs1 (ordN 3 7 2) (letters (canA evenA 0)) 2 0 1 = [(([], 1), ([0], 1))] := by
    unfold pairs1
    rw [(hf 1 (by omega)).1, hw0, hw1, if_pos ⟨by omega, not_eqv F (by decide +kernel) (by decide +kernel) (by unfold Hy.Lets; decide) (by unfold Hy.Lets; decide) (by decide) (by decide) (by decide)⟩]
  have e2 : pairs1 (ordN 3 7 2) (letters (canA evenA 0)) 2 0 2 = [(([], 2), ([0], 2))] := by
    unfold pairs1
    rw [(hf 2 (by omega)).1, hw0, hw1, if_pos ⟨by omega, not_eqv F (by decide +kernel) (by decide +kernel) (by unfold Hy.Lets; decide) (by unfold Hy.Lets; decide) (by decide) (by decide) (by decide)⟩]
  have e3 : ∀ i, i < 3 → pairs1 (ordN 3 7 2) (letters (canA evenA 0)) 2 1 i = [] := fun i hi => by
    unfold pairs1
    rw [(hf i hi).2, if_neg (fun h => by have := h.1; omega)]
  unfold pairsT pairsR
  rw [show List.range 2 = [0, 1] from rfl, show List.range 3 = [0, 1, 2] from rfl]
  simp only [List.flatMap_cons, List.flatMap_nil, e0, e1, e2, e3 0 (by omega), e3 1 (by omega), e3 2 (by omega)]
  rfl
theorem led_even1 : ledErr 3 7 2 evenA 0 [0, 1] = 0 ∧ Cov.ledP (letters evenA) (Int.toNat 0) [0, 1] = 0 := by
  refine ⟨?_, by decide +kernel⟩
  unfold ledErr; rw [if_neg (by simpa using at_even)]; decide
theorem led_even2 : ledErr 3 7 2 evenA 0 [0] = 0 ∧ Cov.ledP (letters evenA) (Int.toNat 0) [0] = 1 := by
  refine ⟨?_, by decide +kernel⟩
  unfold ledErr; rw [if_neg (by simpa using at_even)]; decide
theorem idx_one : idxErr 3 7 2 2 = 0 := by unfold idxErr; rw [if_neg (by decide), if_pos (by decide)]
theorem idx_two : idxErr 0 0 0 2 = 0 := by unfold idxErr; rw [if_neg (by decide), if_pos (by decide)]
theorem sub_two : subN (ordN 0 0 0) 2 = 7 := by rw [subN_T]; decide +kernel
theorem list_two {L : List VA} (h : ListOk (ordN 3 7 2) 2 L) : ∃ x, L = [x] ∧ ∀ i, i < 3 → x.2 i = [1, 0] := by
  obtain ⟨h1, h2, h3⟩ := h
  have ht : actsT (ordN 3 7 2) 2 = [([1, 0], [1, 0], [1, 0])] := by decide +kernel
  have hl : actsL (ordN 3 7 2) 2 = [triT ([1, 0], [1, 0], [1, 0])] := by rw [actsL_T, ht]; rfl
  have hle : ∀ i, i < 3 → leastA (triT ([1, 0], [1, 0], [1, 0])) 2 i = [1, 0] := by decide +kernel
  have hx : ∀ x ∈ L, x.2 = leastA (triT ([1, 0], [1, 0], [1, 0])) 2 := fun x hx => by
    obtain ⟨A0, hA, _, _, e⟩ := h1 x hx
    rw [hl, List.mem_singleton] at hA
    rw [e, hA]
  obtain ⟨x, hxL, _⟩ := h3 _ (by rw [hl]; exact List.mem_singleton.2 rfl)
  refine ⟨x, ?_, fun i hi => by rw [hx x hxL]; exact hle i hi⟩
  cases L with
  | nil => cases hxL
  | cons a r =>
    cases r with
    | nil => rw [List.mem_singleton] at hxL; rw [hxL]
    | cons b r =>
      have := (List.pairwise_cons.1 h2).1 b List.mem_cons_self
      rw [hx a List.mem_cons_self, hx b (List.mem_cons_of_mem _ List.mem_cons_self), bytesLess_irrefl] at this
      cases this
def zeroA : Nat → List Int := fun _ => [0]
theorem act_zero : actErr 3 7 2 zeroA = 0 := actErr_whole ord372 (by decide +kernel) (by decide +kernel)
theorem eul_zero : eulOut 3 7 2 zeroA = (-1, 84) := by
  unfold eulOut
  rw [if_pos act_zero]
  decide +kernel
def badA : Nat → List Int := fun i => if i = 0 then [1, 0] else [0, 1]
theorem act_bad : actErr 3 7 2 badA = 30 := actErr_no ord372 (by decide +kernel) (by decide +kernel)
end Go.Proofs.YtfdklmpkienfhaaGreat

/- The examples of chapter 12 hold. -/
namespace Go.Proofs.YtfdklmpkienfhaaGreat
set_option linter.unusedSimpArgs false
set_option linter.unusedVariables false
open Go.RowKit
open Cov (pairsT)

set_option maxRecDepth 100000 in
set_option maxHeartbeats 8000000 in
theorem law12_sane (w : World) : Calls Tryz.prog 9 #[] w fun e w' => e = .returned (.bool true) ∧ Below w.heap.size w w' := by
  have HWORLD := Lib.hid (fun W => law12_world W)
  have HEVEN := Lib.hid (fun W => law12_even W)
  have HEL := Lib.hid (show ∀ i, i < 3 → (evenA i).length ≤ 1000000000 from fun i hi => by show 2 ≤ _; omega)
  have HTILES := Lib.hid (fun V W hA => cover_Tiles 3 7 2 V evenA 0 W hA HEL.out)
  have HHAS1 := Lib.hid (fun V W hA => cover_Has 3 7 2 V evenA 0 [0, 1] W hA HEL.out (by decide))
  have HHAS2 := Lib.hid (fun V W hA => cover_Has 3 7 2 V evenA 0 [0] W hA HEL.out (by decide))
  rw [led_even1.1, led_even1.2] at HHAS1
  rw [led_even2.1, led_even2.2] at HHAS2
  have HLIST := Lib.hid (fun W => cover_List 3 7 2 2 W)
  have HSUB := Lib.hid (fun W => cover_Subgroups 0 0 0 2 W)
  rw [idx_one] at HLIST
  rw [idx_two, show (2 : Int).toNat = 2 from rfl, sub_two] at HSUB
  rw [at_even, show ((evenA 0).length) = 2 from rfl, show (0 : Int).toNat = 0 from rfl, words_even, pairs_even] at HTILES
  have HEUL := Lib.hid (fun V W hA => cover_Euler 3 7 2 V zeroA W hA (fun i hi => by show 1 ≤ _; omega))
  rw [eul_zero, act_zero] at HEUL
  have HCHK := Lib.hid (fun V W hA => cover_Check 3 7 2 V badA W hA (fun i hi => by unfold badA; split <;> simp))
  rw [act_bad] at HCHK
  unfold ordersV str at *
  go_enter Tryz.func9, Tryz.ntmps9
  go_wp2_with fail
  -- the tiles
  refine (HWORLD.out _).mono ?_
  rintro e w1 ⟨rfl, hB⟩
  have HB1 := Lib.hid hB
  clear hB
  go_wp2_with fail
  refine (HEVEN.out _).mono ?_
  rintro e w2 ⟨V, rfl, hA, hB⟩
  have HB2 := Lib.hid (HB1.out.trans (hB.mono HB1.out.size))
  have HA2 := Lib.hid hA
  clear hB hA
  unfold actV at *
  go_wp2_with fail
  refine (HTILES.out V w2 HA2.out).mono ?_
  rintro e w3 ⟨tv, pv, rfl, hB, -, hok⟩
  obtain ⟨hgt, hgp⟩ := hok (by first | trivial | rfl)
  obtain ⟨at_, ct, hte, -⟩ := hgt.open
  obtain ⟨ap, cp, hpe, -⟩ := hgp.open
  subst hte hpe
  have HT3 := Lib.hid hgt.rd
  have HP3 := Lib.hid hgp.rd
  have HB3 := Lib.hid (HB2.out.trans (hB.mono HB2.out.size))
  clear hB hok hgt hgp HA2
  go_wp2_with fail
  -- Has
  refine (HWORLD.out _).mono ?_
  rintro e w4 ⟨rfl, hB⟩
  have HB4 := Lib.hid (HB3.out.trans (hB.mono HB3.out.size))
  have HT4 := Lib.hid (HT3.out.later hB)
  have HP4 := Lib.hid (HP3.out.later hB)
  clear hB
  go_wp2_with fail
  refine (HEVEN.out _).mono ?_
  rintro e w5 ⟨V, rfl, hA, hB⟩
  have HB5 := Lib.hid (HB4.out.trans (hB.mono HB4.out.size))
  have HT5 := Lib.hid (HT4.out.later hB)
  have HP5 := Lib.hid (HP4.out.later hB)
  have HA := Lib.hid hA
  clear hB hA
  unfold actV at *
  go_wp2_with fail
  refine (HHAS1.out V w5 HA.out).mono ?_
  rintro e w6 ⟨rfl, hB⟩
  have HB6 := Lib.hid (HB5.out.trans (hB.mono HB5.out.size))
  have HT6 := Lib.hid (HT5.out.later hB)
  have HP6 := Lib.hid (HP5.out.later hB)
  clear hB HA
  go_wp2_with fail
  -- Has
  refine (HWORLD.out _).mono ?_
  rintro e w7 ⟨rfl, hB⟩
  have HB7 := Lib.hid (HB6.out.trans (hB.mono HB6.out.size))
  have HT7 := Lib.hid (HT6.out.later hB)
  have HP7 := Lib.hid (HP6.out.later hB)
  clear hB
  go_wp2_with fail
  refine (HEVEN.out _).mono ?_
  rintro e w8 ⟨V, rfl, hA, hB⟩
  have HB8 := Lib.hid (HB7.out.trans (hB.mono HB7.out.size))
  have HT8 := Lib.hid (HT7.out.later hB)
  have HP8 := Lib.hid (HP7.out.later hB)
  have HA := Lib.hid hA
  clear hB hA
  unfold actV at *
  go_wp2_with fail
  refine (HHAS2.out V w8 HA.out).mono ?_
  rintro e w9 ⟨rfl, hB⟩
  have HB9 := Lib.hid (HB8.out.trans (hB.mono HB8.out.size))
  have HT9 := Lib.hid (HT8.out.later hB)
  have HP9 := Lib.hid (HP8.out.later hB)
  clear hB HA
  go_wp2_with fail
  -- List
  refine (HWORLD.out _).mono ?_
  rintro e w10 ⟨rfl, hB⟩
  have HB10 := Lib.hid (HB9.out.trans (hB.mono HB9.out.size))
  have HT10 := Lib.hid (HT9.out.later hB)
  have HP10 := Lib.hid (HP9.out.later hB)
  clear hB
  go_wp2_with fail
  refine (HLIST.out _).mono ?_
  rintro e w11 ⟨lv, rfl, hB, -, hok⟩
  obtain ⟨L, ⟨la, lc, hlv, hlc, hlA⟩, hlo⟩ := hok (by first | trivial | rfl)
  obtain ⟨x, rfl, hx⟩ := list_two hlo
  have HB11 := Lib.hid (HB10.out.trans (hB.mono HB10.out.size))
  have HT11 := Lib.hid (HT10.out.later hB)
  have HP11 := Lib.hid (HP10.out.later hB)
  rw [show [x].length = 1 from rfl] at hlv
  subst hlv
  have HL11 := Lib.hid (show Rd w11 (.slice la 1 lc) 1 (flatV [x]) from ⟨la, lc, rfl, hlc⟩)
  have HAL11 := Lib.hid (hlA x (List.mem_singleton.2 rfl))
  have HX := Lib.hid hx
  clear hB hok hlc hlA hlo hx
  go_wp2_with fail
  -- Subgroups
  refine (HSUB.out _).mono ?_
  rintro e w12 ⟨rfl, hB⟩
  have HB12 := Lib.hid (HB11.out.trans (hB.mono HB11.out.size))
  have HT12 := Lib.hid (HT11.out.later hB)
  have HP12 := Lib.hid (HP11.out.later hB)
  have HL12 := Lib.hid (HL11.out.later hB)
  have HAL12 := Lib.hid (show AR w12.heap.size w12 x.1 x.2 from fun i hi => ((HAL11.out i hi).below hB).more hB.size)
  clear hB
  go_wp2_with fail
  -- Euler
  refine (HWORLD.out _).mono ?_
  rintro e w13 ⟨rfl, hB⟩
  have HB13 := Lib.hid (HB12.out.trans (hB.mono HB12.out.size))
  have HT13 := Lib.hid (HT12.out.later hB)
  have HP13 := Lib.hid (HP12.out.later hB)
  have HL13 := Lib.hid (HL12.out.later hB)
  have HAL13 := Lib.hid (show AR w13.heap.size w13 x.1 x.2 from fun i hi => ((HAL12.out i hi).below hB).more hB.size)
  clear hB
  go_wp2_with fail
  obtain ⟨hs, hB, q0, q1, q2⟩ := alloc3 w13 (.cells #[.int .i64 0] 3) (.cells #[.int .i64 0] 3) (.cells #[.int .i64 0] 3)
  generalize ((w13.alloc (.cells #[.int .i64 0] 3)).alloc (.cells #[.int .i64 0] 3)).alloc (.cells #[.int .i64 0] 3) = W14 at hs hB q0 q1 q2 ⊢
  have hA : AR W14.heap.size W14 (fun i => .slice (some ⟨w13.heap.size + i, 0, none⟩) 1 1) zeroA := fun i hi => by
    have hq : W14.heap[w13.heap.size + i]? = some (.cells #[.int .i64 0] 3) := by
      obtain rfl | rfl | rfl : i = 0 ∨ i = 1 ∨ i = 2 := by omega
      · exact q0
      · exact q1
      · exact q2
    refine ⟨_, 1, rfl, Nat.le_refl _, fun k hk => ⟨_, _, rfl, by omega, ?_⟩⟩
    have : k = 0 := by simpa [zeroA] using hk
    subst this
    exact cell_of_heap hq 0
  have HE := Lib.hid (HEUL.out _ W14 hA)
  have HB14 := Lib.hid (HB13.out.trans (hB.mono HB13.out.size))
  have HT14 := Lib.hid (HT13.out.later hB)
  have HP14 := Lib.hid (HP13.out.later hB)
  have HL14 := Lib.hid (HL13.out.later hB)
  have HAL14 := Lib.hid (show AR W14.heap.size W14 x.1 x.2 from fun i hi => ((HAL13.out i hi).below hB).more hB.size)
  clear hs hB q0 q1 q2 hA
  unfold actV at HE
  refine HE.out.mono ?_
  rintro e w15 ⟨rfl, hB⟩
  have HB15 := Lib.hid (HB14.out.trans (hB.mono HB14.out.size))
  have HT15 := Lib.hid (HT14.out.later hB)
  have HP15 := Lib.hid (HP14.out.later hB)
  have HL15 := Lib.hid (HL14.out.later hB)
  have HAL15 := Lib.hid (show AR w15.heap.size w15 x.1 x.2 from fun i hi => ((HAL14.out i hi).below hB).more hB.size)
  clear hB HE
  go_upto_region 7 with fail
  have HQ16 := Lib.hid (alloc_heap_new w15 (.cells #[.int .i64 (-1), .int .i64 84] 54))
  have hB := (Below.refl w15.heap.size w15).alloc (Nat.le_refl _) (.cells #[.int .i64 (-1), .int .i64 84] 54)
  generalize w15.alloc (.cells #[.int .i64 (-1), .int .i64 84] 54) = W16 at HQ16 hB ⊢
  have HB16 := Lib.hid (HB15.out.trans (hB.mono HB15.out.size))
  have HT16 := Lib.hid (HT15.out.later hB)
  have HP16 := Lib.hid (HP15.out.later hB)
  have HL16 := Lib.hid (HL15.out.later hB)
  have HAL16 := Lib.hid (show AR W16.heap.size W16 x.1 x.2 from fun i hi => ((HAL15.out i hi).below hB).more hB.size)
  clear hB
  obtain ⟨a0, n0, c0, hv0⟩ : ∃ a0 n0 c0, x.1 0 = .slice a0 n0 c0 := by obtain ⟨a, c, h, _⟩ := HAL16.out 0 (by omega); exact ⟨_, _, _, h⟩
  obtain ⟨a1, n1, c1, hv1⟩ : ∃ a0 n0 c0, x.1 1 = .slice a0 n0 c0 := by obtain ⟨a, c, h, _⟩ := HAL16.out 1 (by omega); exact ⟨_, _, _, h⟩
  obtain ⟨a2, n2, c2, hv2⟩ : ∃ a0 n0 c0, x.1 2 = .slice a0 n0 c0 := by obtain ⟨a, c, h, _⟩ := HAL16.out 2 (by omega); exact ⟨_, _, _, h⟩
  obtain ⟨la', lc', hle, hlc⟩ := HL16.out
  simp only [Value.slice.injEq, true_and] at hle
  obtain ⟨rfl, rfl⟩ := hle
  obtain ⟨g, off, rfl, hg, hc0⟩ := hlc 0 (x.1 0) rfl
  obtain ⟨g', off', hge, -, hc1⟩ := hlc 1 (x.1 1) rfl
  simp only [Option.some.injEq, Addr.mk.injEq, and_true] at hge
  obtain ⟨rfl, rfl⟩ := hge
  obtain ⟨g', off', hge, -, hc2⟩ := hlc 2 (x.1 2) rfl
  simp only [Option.some.injEq, Addr.mk.injEq, and_true] at hge
  obtain ⟨rfl, rfl⟩ := hge
  rw [hv0] at hc0
  rw [hv1] at hc1
  rw [hv2] at hc2
  have lf : w15.heap.size < W16.heap.size := (Array.getElem?_eq_some_iff.1 HQ16.out).1
  have k0 := fun (y : Later W16) => ((bcell y.h).1 w15.heap.size 0 lf).trans (cell_of_heap HQ16.out 0)
  have k1 := fun (y : Later W16) => ((bcell y.h).1 w15.heap.size 1 lf).trans (cell_of_heap HQ16.out 1)
  have k2 := fun (y : Later W16) => ((bcell y.h).1 g (off + 0) hg).trans hc0
  have k3 := fun (y : Later W16) => ((bcell y.h).1 g (off + 1) hg).trans hc1
  have k4 := fun (y : Later W16) => ((bcell y.h).1 g (off + 2) hg).trans hc2
  have hnf : ∀ W : World, (binOp .neq 54 (.agg #[.int .i64 (-1), .int .i64 84]) (.agg #[.int .i64 (-1), .int .i64 84])).run Tryz.prog W = .ok (.bool false) W := fun W => neq_frac (-1) (-1) 84 84 W
  have HEQ := Lib.hid (fun V' W (h1 : AR W.heap.size W x.1 x.2) h2 => r12_Equal (w := W) (V1 := x.1) (V2 := V') (A1 := x.2) (A2 := evenA) h1 h2 (fun i hi => by rw [HX.out i hi]; simp) (fun i hi => by show 2 ≤ _; omega))
  rw [show eqA x.2 evenA = true from eqA_true.2 (fun i hi => HX.out i hi)] at HEQ
  unfold actV at HEQ
  rw [hv0, hv1, hv2] at HEQ
  simp only [List.getElem?_toArray, List.getElem?_cons_zero, List.getElem?_cons_succ, Nat.add_zero] at k0 k1 k2
  clear hv0 hv1 hv2 hlc hg hc0 hc1 hc2 lf
  refine wp_region_segs [(List.range 47, [47, 48])] 49 (fun w' => ∃ y : Later W16, w' = y.W) ⟨⟨W16.drew, (Below.refl _ _).drew⟩, rfl⟩ (by kernel_rfl) (by kernel_rfl) ?_
  simp only [show List.range 47 = [0, 1, 2, 3, 4, 5, 6, 7, 8, 9, 10, 11, 12, 13, 14, 15, 16, 17, 18, 19, 20, 21, 22, 23, 24, 25, 26, 27, 28, 29, 30, 31, 32, 33, 34, 35, 36, 37, 38, 39, 40, 41, 42, 43, 44, 45, 46] from rfl]
  simp only [List.map_cons, List.map_nil, pickOps, List.flatMap_cons, List.flatMap_nil, List.cons_append, List.nil_append, List.take_succ_cons, List.take_zero, List.drop_succ_cons, List.drop_zero, wpSegs]
  repeat (go_big_quiet_step (fail))
  refine wpQuiet_nil ?_
  clear k0 k1 k2 k3 k4 hnf
  refine wpG_step ?_
  intro K2 hK2
  go_wp2_with fail
  refine (HEVEN.out _).mono ?_
  rintro e w17 ⟨V', rfl, hA, hB⟩
  have HB17 := Lib.hid (show Below W16.heap.size W16 w17 from below_undrew hB)
  have HA17 := Lib.hid hA
  clear hA hB
  go_wp2_with fail
  refine ⟨⟨⟨w17, HB17.out⟩, rfl⟩, hK2 _ _ ?_⟩
  clear hK2
  refine wpG_step ?_
  intro K3 hK3
  go_wp2_with fail
  refine (HEQ.out V' w17 (fun i hi => ((HAL16.out i hi).below HB17.out).more HB17.out.size) HA17.out).mono ?_
  rintro e w18 ⟨rfl, hB⟩
  have HB18 := Lib.hid (HB17.out.trans (hB.mono HB17.out.size))
  have HT18 := Lib.hid (HT16.out.later HB18.out)
  have HP18 := Lib.hid (HP16.out.later HB18.out)
  have HBW18 := Lib.hid (HB16.out.trans (HB18.out.mono HB16.out.size))
  clear hB
  go_wp2_with fail
  refine ⟨⟨⟨w18, HB18.out⟩, rfl⟩, hK3 _ _ ?_⟩
  clear hK3
  refine wpG_nil ?_
  go_wp2_with fail
  have hB19 := (Below.refl w18.heap.size w18).alloc (Nat.le_refl _) (.cells #[.string ⟨#[]⟩, .string ⟨#[0]⟩] 9)
  have hs19 : Rd (w18.alloc (.cells #[.string ⟨#[]⟩, .string ⟨#[0]⟩] 9)) (.slice (some ⟨w18.heap.size, 0, none⟩) 2 2) [[], [0]].length (([[], [0]] : List (List UInt8)).map str) := by
    refine ⟨_, 2, rfl, fun j u hj => ⟨_, 0, rfl, by simp, ?_⟩⟩
    rw [Nat.zero_add, cell_new]
    have : j = 0 ∨ j = 1 := by have := (List.getElem?_eq_some_iff.1 hj).1; simp at this; omega
    rcases this with rfl | rfl
    · simp at hj; subst hj; rfl
    · simp at hj; subst hj; rfl
  have HB19 := Lib.hid (HBW18.out.trans (hB19.mono HBW18.out.size))
  have HS19 := Lib.hid (equal_strs (l := [[], [0]]) (m := [[], [0]]) (HT18.out.later hB19) hs19 (by decide) (by decide))
  have HP19 := Lib.hid (HP18.out.later hB19)
  rw [show decide (([[], [0]] : List (List UInt8)) = [[], [0]]) = true from by decide] at HS19
  clear hB19 hs19
  generalize w18.alloc (.cells #[.string ⟨#[]⟩, .string ⟨#[0]⟩] 9) = w19 at *
  refine HS19.out.mono ?_
  rintro e w20 ⟨rfl, hB⟩
  have HB20 := Lib.hid (HB19.out.trans (hB.mono HB19.out.size))
  have HP20 := Lib.hid (HP19.out.later hB)
  clear hB HS19
  go_wp2_with fail
  have hB21 := (Below.refl w20.heap.size w20).alloc (Nat.le_refl _) (.cells #[.string ⟨#[]⟩, .int .i64 1, .string ⟨#[0]⟩, .int .i64 1, .string ⟨#[]⟩, .int .i64 2, .string ⟨#[0]⟩, .int .i64 2] 38)
  have hs21 : Rd (w20.alloc (.cells #[.string ⟨#[]⟩, .int .i64 1, .string ⟨#[0]⟩, .int .i64 1, .string ⟨#[]⟩, .int .i64 2, .string ⟨#[0]⟩, .int .i64 2] 38)) (.slice (some ⟨w20.heap.size, 0, none⟩) 2 2) ([(([], 1), ([0], 1)), (([], 2), ([0], 2))] : List ((Hy.Word × Nat) × (Hy.Word × Nat))).length (pairCells [(([], 1), ([0], 1)), (([], 2), ([0], 2))]) := by
    refine ⟨_, 2, rfl, fun j u hj => ⟨_, 0, rfl, by simp, ?_⟩⟩
    rw [Nat.zero_add, cell_new]
    have : j < 8 := by have := (List.getElem?_eq_some_iff.1 hj).1; simpa [pairCells, encP] using this
    obtain h | h | h | h | h | h | h | h : j = 0 ∨ j = 1 ∨ j = 2 ∨ j = 3 ∨ j = 4 ∨ j = 5 ∨ j = 6 ∨ j = 7 := by omega
    all_goals
      subst h
      simp [pairCells, encP] at hj
      subst hj
      rfl
  have HB21 := Lib.hid (HB20.out.trans (hB21.mono HB20.out.size))
  have HS21 := Lib.hid (equal_pairs (l := [(([], 1), ([0], 1)), (([], 2), ([0], 2))]) (m := [(([], 1), ([0], 1)), (([], 2), ([0], 2))]) (HP20.out.later hB21) hs21 (by decide) (by decide))
  rw [show decide (([(([], 1), ([0], 1)), (([], 2), ([0], 2))] : List ((Hy.Word × Nat) × (Hy.Word × Nat))) = [(([], 1), ([0], 1)), (([], 2), ([0], 2))]) = true from by decide] at HS21
  clear hB21 hs21
  generalize w20.alloc (.cells #[.string ⟨#[]⟩, .int .i64 1, .string ⟨#[0]⟩, .int .i64 1, .string ⟨#[]⟩, .int .i64 2, .string ⟨#[0]⟩, .int .i64 2] 38) = w21 at *
  refine HS21.out.mono ?_
  rintro e w22 ⟨rfl, hB⟩
  have HB22 := Lib.hid (HB21.out.trans (hB.mono HB21.out.size))
  clear hB HS21
  go_wp2_with fail
  refine (HWORLD.out _).mono ?_
  rintro e w23 ⟨rfl, hB⟩
  have HB23 := Lib.hid (HB22.out.trans (hB.mono HB22.out.size))
  clear hB
  go_wp2_with fail
  obtain ⟨hs, hB, q0, q1, q2⟩ := alloc3 w23 (.cells #[.int .i64 1, .int .i64 0] 3) (.cells #[.int .i64 0, .int .i64 1] 3) (.cells #[.int .i64 0, .int .i64 1] 3)
  generalize ((w23.alloc (.cells #[.int .i64 1, .int .i64 0] 3)).alloc (.cells #[.int .i64 0, .int .i64 1] 3)).alloc (.cells #[.int .i64 0, .int .i64 1] 3) = W24 at hs hB q0 q1 q2 ⊢
  have hA : AR W24.heap.size W24 (fun i => .slice (some ⟨w23.heap.size + i, 0, none⟩) 2 2) badA := fun i hi => by
    have hl : (badA i).length = 2 := by unfold badA; split <;> rfl
    refine ⟨_, 2, by rw [hl], by rw [hl]; exact Nat.le_refl _, fun k hk => ⟨_, _, rfl, by omega, ?_⟩⟩
    rw [hl] at hk
    obtain rfl | rfl | rfl : i = 0 ∨ i = 1 ∨ i = 2 := by omega
    all_goals
      obtain rfl | rfl : k = 0 ∨ k = 1 := by omega
      all_goals first
        | exact cell_of_heap q0 _
        | exact cell_of_heap q1 _
        | exact cell_of_heap q2 _
  have HE := Lib.hid (HCHK.out _ W24 hA)
  have HB24 := Lib.hid (HB23.out.trans (hB.mono HB23.out.size))
  clear hs hB q0 q1 q2 hA
  unfold actV at HE
  refine HE.out.mono ?_
  rintro e w25 ⟨rfl, hB⟩
  have HB25 := Lib.hid (HB24.out.trans (hB.mono HB24.out.size))
  clear hB HE
  go_wp2_with fail
  go_ret
  exact ⟨rfl, HB25.out⟩
end Go.Proofs.YtfdklmpkienfhaaGreat

/- The arguments that the laws of chapter 12 are handed: lists of an action. -/
namespace Go.Proofs.YtfdklmpkienfhaaGreat
set_option linter.unusedSimpArgs false
set_option linter.unusedVariables false
open Go.ChangeShapes Go.WideShapes Go.ChangeAt Go.RowKit Go.Joins

section
variable {H : Type} {enc : TypeId × Value → H} {w : World} {spare : Nat → Bool} {held : Bool}
set_option maxRecDepth 100000

theorem cells_int1 : Tryz.prog.cellsOf 3 = 1 := by kernel_rfl
theorem cells_ints : Tryz.prog.cellsOf 24 = 1 := by kernel_rfl
theorem cells_three : Tryz.prog.cellsOf 25 = 3 := by kernel_rfl
theorem cells_act : Tryz.prog.cellsOf 27 = 3 := by kernel_rfl

/-- A slice of numbers that came in. -/
theorem ints_cell {fuel : Nat} {v : Value} {x : DataW H × List MemPlace} (h : DataW.trod enc Tryz.prog w 0 spare held fuel 24 [v] = some x) : ∃ l : List Int, RS w.heap.size w v l ∧ l.length ≤ 9223372036854775807 := by
  rcases Go.Deep.open_slice1 Tryz.underlying24 cells_int1 h with ⟨hcs, _⟩ | ⟨a, len, cap, m, n, V, D, Pl, hcs, _, hl, hm, hmm, _, hx⟩
  · simp only [List.cons.injEq, and_true] at hcs
    exact ⟨[], ⟨none, 0, hcs, Nat.le_refl _, fun k hk => absurd hk (Nat.not_lt_zero _)⟩, by simp⟩
  · simp only [List.cons.injEq, and_true] at hcs
    have hlm : len ≤ m := by rw [hmm]; split <;> omega
    have each : ∀ i, i < m → ∃ z : Int, w.cell? (a.add i) = some (.int .i64 z) := fun i hi => by
      obtain ⟨h1, h2⟩ := hx i hi
      obtain ⟨z, e, _, _⟩ := DataW.trod_int Tryz.underlying3 h2
      simp only [List.cons.injEq, and_true] at e
      exact ⟨z, by rw [h1, e]⟩
    have pick : ∃ q : Nat → Int, ∀ i, i < m → w.cell? (a.add i) = some (.int .i64 (q i)) := by
      refine ⟨fun i => if hi : i < m then Classical.choose (each i hi) else 0, fun i hi => ?_⟩
      simp only [dif_pos hi]
      exact Classical.choose_spec (each i hi)
    obtain ⟨q, hq⟩ := pick
    refine ⟨(List.range len).map q, ⟨some a, cap, by simpa using hcs, by simpa using hl, fun k hk => ?_⟩, by simp; unfold maxLen at hm; omega⟩
    have hk' : k < len := by simpa using hk
    have hc := hq k (by omega)
    obtain ⟨g, off, sp⟩ := a
    have hsp : sp = none := by
      have hz := World.cell?_spot (hq 0 (by omega))
      simpa [Addr.add] using hz
    subst hsp
    rw [Addr.add_lit] at hc
    refine ⟨g, off, rfl, ?_, ?_⟩
    · rcases Nat.lt_or_ge g w.heap.size with h | h
      · exact h
      · simp [World.cell?, Array.getElem?_eq_none h] at hc
    · rw [hc]
      simp [List.getD, hk']

/-- An action that came in. -/
theorem act_cells {fuel : Nat} {cs : List Value} {x : DataW H × List MemPlace} (h : DataW.trod enc Tryz.prog w 0 spare held fuel 27 cs = some x) :
    ∃ (V : Nat → Value) (A : Nat → List Int), cs = [V 0, V 1, V 2] ∧ AR w.heap.size w V A ∧ ∀ i, i < 3 → (A i).length ≤ 9223372036854775807 := by
  obtain ⟨xs, n, _, _, hl, hlen, hf⟩ := DataW.trod_struct Tryz.underlying27 h
  rw [cells_act] at hl
  match xs, hlen, cs, hl with
  | [y0], _, [v0, v1, v2], _ =>
    have g0 := hf 0 _ rfl
    simp [cells_three] at g0
    obtain ⟨ys, m, _, _, _, hl2, hf2⟩ := DataW.trod_array Tryz.underlying25 g0
    have e0 := hf2 0 (by omega)
    have e1 := hf2 1 (by omega)
    have e2 := hf2 2 (by omega)
    simp [cells_ints] at e0 e1 e2
    match ys, hl2 with
    | [z0, z1, z2], _ =>
      simp at e0 e1 e2
      obtain ⟨l0, r0, b0⟩ := ints_cell e0
      obtain ⟨l1, r1, b1⟩ := ints_cell e1
      obtain ⟨l2, r2, b2⟩ := ints_cell e2
      refine ⟨fun i => if i = 0 then v0 else if i = 1 then v1 else v2, fun i => if i = 0 then l0 else if i = 1 then l1 else l2, rfl, fun i hi => ?_, fun i hi => ?_⟩
      · obtain rfl | rfl | rfl : i = 0 ∨ i = 1 ∨ i = 2 := by omega
        · exact r0
        · exact r1
        · exact r2
      · obtain rfl | rfl | rfl : i = 0 ∨ i = 1 ∨ i = 2 := by omega
        · exact b0
        · exact b1
        · exact b2
theorem act_arg {r : Reach} {b0 : Nat} {v : Value} {d : DataW H} {p : List MemPlace} (hv : Value.okWide Tryz.prog w r b0 27 v) (h : DataW.Trod enc Tryz.prog w 0 spare held 27 v d p) :
    ∃ (V : Nat → Value) (A : Nat → List Int), v = actV V ∧ AR w.heap.size w V A ∧ ∀ i, i < 3 → (A i).length ≤ 9223372036854775807 := by
  obtain ⟨cs, rfl, hsz⟩ := okWide_struct Tryz.underlying27 hv
  obtain ⟨fuel, hf⟩ := h
  obtain ⟨V, A, hcs, hA, hl⟩ := act_cells hf
  refine ⟨V, A, ?_, hA, hl⟩
  unfold actV
  congr 1
  apply Array.toList_inj.1
  simpa [Value.cells] using hcs
end
end Go.Proofs.YtfdklmpkienfhaaGreat
