import Derived.Test.YtdckpjagmbdkgaaCells
import Derived.Test.YtdckpjagmbdkgaaP7
import Derived.Test.YtdckpjagmbdkgaaT5
import Derived.Test.YtdckpjagmbdkgaaS41

/- The examples of the chapter on tiles: what they come out as. -/
namespace Go.Proofs.Ytdckpjagmbdkgaa
set_option linter.unusedSimpArgs false
set_option linter.unusedVariables false
open Go.RowKit
open Hy (Lev wd nfw Lets IsNF levF Upto sumN aC pC sC)

def o7 : Hy.Ord := ⟨3, 7, 2⟩
theorem ord7 : Hy.ordErr o7.m01 o7.m12 o7.m02 = 0 := by decide +kernel
theorem fine7 : Hy.Fine o7 := Hy.fine_of ord7

/-- Two lists in ascending order with the same elements. -/
theorem sorted_ext {α : Type} {r : α → α → Prop} (ha : ∀ a b, r a b → r b a → False) : ∀ {l m : List α}, l.Pairwise r → m.Pairwise r → (∀ x, x ∈ l ↔ x ∈ m) → l = m
  | [], [], _, _, _ => rfl
  | [], b :: m, _, _, h => absurd ((h b).2 List.mem_cons_self) (by simp)
  | a :: l, [], _, _, h => absurd ((h a).1 List.mem_cons_self) (by simp)
  | a :: l, b :: m, h1, h2, h => by
    obtain ⟨p1, p2⟩ := List.pairwise_cons.1 h1
    obtain ⟨q1, q2⟩ := List.pairwise_cons.1 h2
    have hab : a = b := by
      rcases List.mem_cons.1 ((h a).1 List.mem_cons_self) with e | h3
      · exact e
      · rcases List.mem_cons.1 ((h b).2 List.mem_cons_self) with e | h4
        · exact e.symm
        · exact (ha _ _ (p1 b h4) (q1 a h3)).elim
    subst hab
    rw [sorted_ext ha p2 q2 (fun x => ?_)]
    constructor
    · intro hx
      rcases List.mem_cons.1 ((h x).1 (List.mem_cons_of_mem _ hx)) with rfl | h3
      · exact (ha _ _ (p1 _ hx) (p1 _ hx)).elim
      · exact h3
    · intro hx
      rcases List.mem_cons.1 ((h x).2 (List.mem_cons_of_mem _ hx)) with rfl | h3
      · exact (ha _ _ (q1 _ hx) (q1 _ hx)).elim
      · exact h3

def ring7 : List (List UInt8) := [[0, 1], [0, 2], [1, 0], [1, 2], [2, 1]]
theorem pairs7 : (List.range 3).all (fun a => (List.range 3).all fun b => nfw o7 [UInt8.ofNat a, UInt8.ofNat b] != [UInt8.ofNat a, UInt8.ofNat b] || ring7.contains [UInt8.ofNat a, UInt8.ofNat b]) = true := by decide +kernel
theorem ring7_nf : ring7.all (fun w => nfw o7 w == w) = true := by decide +kernel

theorem uint_of {c : UInt8} (h : c.toNat < 3) : ∃ a, a < 3 ∧ c = UInt8.ofNat a := ⟨c.toNat, h, by simp⟩

/-- The ring of the triangle 3, 7, 2 with two letters. -/
theorem ring7_is {L : List (List UInt8)} (h : RingWords o7 2 L) : L = ring7 := by
  obtain ⟨G, ring, lv, hp, hs⟩ := h
  have hst := Hy.ring_strict lv hp hs
  refine sorted_ext (r := fun a b => Hy.less a b = true) (fun a b h1 h2 => by rw [Hy.less_asymm h1] at h2; cases h2) hst (by decide) (fun w => ?_)
  constructor
  · intro hw
    obtain ⟨h1, h2, h3⟩ := Hy.ring_words fine7 lv hp w hw
    obtain ⟨n, h4, h5⟩ := Hy.norm_ok fine7 (fuel := 1000) h2 (by omega) (by omega)
    have hn : nfw o7 w = w := by unfold nfw; rw [h4, Option.getD_some]; exact h5.uniq h3
    match w, h1 with
    | [c, d], _ =>
      obtain ⟨a, ha, rfl⟩ := uint_of (h2 c (by simp))
      obtain ⟨b, hb, rfl⟩ := uint_of (h2 d (by simp))
      have := List.all_eq_true.1 (List.all_eq_true.1 pairs7 a (List.mem_range.2 ha)) b (List.mem_range.2 hb)
      rw [hn] at this
      simpa using this
  · intro hw
    have hn := List.all_eq_true.1 ring7_nf w hw
    have hn : nfw o7 w = w := by simpa using hn
    have hl : w.length = 2 ∧ Lets w := by
      have : ring7.all (fun w => w.length == 2 && w.all (fun c => c.toNat < 3)) = true := by decide
      have := List.all_eq_true.1 this w hw
      simp only [Bool.and_eq_true, beq_iff_eq, List.all_eq_true, decide_eq_true_eq] at this
      exact ⟨this.1, this.2⟩
    obtain ⟨j, h1, h2, h3⟩ := Hy.full_leads lv.inv lv.upto _ w rfl hl.2 (by omega)
    have hj : w = wd G j := by
      rw [← hn]; exact Hy.nfw_leads fine7 lv.inv hl.2 (by omega) h1
    refine hp.mem_iff.2 (List.mem_map.2 ⟨j, (lv.mem j).2 ⟨h2, by rw [← hj]; exact hl.1⟩, hj.symm⟩)

theorem small_w64 {n a : Nat} (h : Hy.w64 n = BitVec.ofNat 64 a) (hn : n ≤ 1000000000) (ha : a ≤ 1000000000) : n = a := by
  unfold Hy.w64 at h
  have h1 := congrArg BitVec.toNat h
  rw [BitVec.toNat_ofInt, BitVec.toNat_ofNat] at h1
  have e : ((n : Int) % ((2 ^ 64 : Nat) : Int)).toNat = n := by
    have : ((2 ^ 64 : Nat) : Int) = 18446744073709551616 := by decide
    rw [this]; omega
  rw [e] at h1
  omega
theorem cnt_small {o : Hy.Ord} {G : List Hy.Node} {ring : List Nat} {i k : Nat} (h : Lev o G i ring) (hi : i ≤ 15 := by omega) : aC G k ≤ 1000000000 := by
  have h2 := h.small
  have h3 : 3 ^ i ≤ 3 ^ 15 := Nat.pow_le_pow_right (by omega) hi
  have h4 : 3 ^ 15 = 14348907 := by decide
  have : aC G k ≤ G.length := by
    unfold Hy.aC Hy.cnt
    refine Nat.le_trans (List.length_filter_le _ _) ?_
    rw [List.length_range]; exact Nat.le_refl _
  omega

/-- The cells of its first two rings. -/
theorem cells7 {T : Nat} {P S : List (Nat × Nat)} (h : CellsUp o7 2 T P S) : T = 4 ∧ P.length = 6 ∧ S.length = 9 := by
  obtain ⟨G, ring, h1, lv⟩ := Hy.lev_ok fine7 2 (by omega)
  obtain ⟨k1, k2, k3⟩ := h.num G lv.inv lv.upto
  have F1 : Hy.Full G 1 := fun x hx hn s hs => lv.full x hx (by unfold Hy.ln at hn; omega) s hs
  have a0 : aC G 0 = 1 := by
    have h3 := Hy.ring_ser fine7 lv.inv F1 0 (by omega)
    have h4 : HySer.ser (HySer.fracD (Hy.orders o7)) (HySer.refDen (Hy.orders o7)) 0 = 1 := by decide +kernel
    rw [h4] at h3
    exact small_w64 (a := 1) h3 (cnt_small lv) (by decide)
  have a1 : aC G 1 = 3 := by
    have h3 := Hy.ring_ser fine7 lv.inv F1 1 (by omega)
    have h4 : HySer.ser (HySer.fracD (Hy.orders o7)) (HySer.refDen (Hy.orders o7)) 1 = 3 := by decide +kernel
    rw [h4] at h3
    exact small_w64 (a := 3) h3 (cnt_small lv) (by decide)
  have z := fun s => Hy.a_zero lv.inv s
  have s1 := fun s (hs : s < 3) => Hy.a_succ lv.inv hs F1 (n := 0) (by omega)
  have d := Hy.disc fine7 lv.inv (by decide) (by decide) (by decide) 1
  rw [show (1 : Nat) + 1 = 2 from rfl, ← k1, ← k2, ← k3] at d
  have hT : T = 4 := by
    rw [k1]; show 0 + aC G 0 + aC G 1 = 4
    omega
  have hS : S.length = 9 := by
    rw [k3]
    show 0 + (Hy.dC G 0 0 + Hy.dC G 1 0 + Hy.dC G 2 0) + (Hy.dC G 0 1 + Hy.dC G 1 1 + Hy.dC G 2 1) = 9
    have e0 := z 0; have e1 := z 1; have e2 := z 2
    have f0 := s1 0 (by omega); have f1 := s1 1 (by omega); have f2 := s1 2 (by omega)
    simp only [Nat.zero_add] at f0 f1 f2
    omega
  exact ⟨hT, by omega, hS⟩

theorem series0 : HySer.frac (Hy.orders ⟨0, 0, 0⟩) = ([1, 1], [1, -2]) := by decide +kernel
theorem count0 : countVal 0 0 0 3 = 12 ∧ ringErr 0 0 0 3 1000 = 0 := by decide +kernel
theorem far7 : farOf 3 7 2 [0] [1] = 2 ∧ Hy.allErr 3 7 2 [[0], [1]] = 0 := by decide +kernel
theorem ring15 : ringErr 3 7 2 15 14 = 4 := by decide +kernel
theorem err7 : Hy.allErr o7.m01 o7.m12 o7.m02 [[]] = 0 := by decide +kernel
theorem m7 : o7.m (fstM 2) (sndM 2) = 3 := by decide
end Go.Proofs.Ytdckpjagmbdkgaa

/- The examples of the chapter on tiles come out as they are told. -/
namespace Go.Proofs.Ytdckpjagmbdkgaa
set_option linter.unusedSimpArgs false
set_option linter.unusedVariables false
open Go.RowKit

theorem around7 : ((Hy.aroundW o7 [] (fstM 2) (sndM 2)).map str).length = 6 := by rw [List.length_map, Hy.length_aroundW, m7]

set_option maxRecDepth 100000 in
set_option maxHeartbeats 4000000 in
theorem sane4 (w : World) : Calls Try.prog 10 #[] w fun e w' => e = .returned (.bool true) ∧ Below w.heap.size w w' := by
  have HRING := Lib.hid (fun W => t04_Ring_ok o7 ord7 2 (by omega) W)
  have HSER := Lib.hid (fun W => t04_Series (o := ⟨0, 0, 0⟩) (by decide +kernel) W)
  have HCOU := Lib.hid (fun W => t04_Count 0 0 0 3 W (by omega))
  have HARO := Lib.hid (fun W => t04_Around_ok o7 [] 2 W err7 (by omega) (by rw [m7]; omega))
  have HCEL := Lib.hid (fun W => t04_Cells_ok o7 ord7 1 (by omega) W)
  have HFAR := Lib.hid (fun W => t04_Far 3 7 2 [0] [1] W (by decide) (by decide))
  have HERR := Lib.hid (fun W => t04_Ring_err 3 7 2 15 W (by rw [ring15]; omega))
  unfold SeriesPost at HSER
  rw [series0] at HSER
  rw [count0.1, count0.2] at HCOU
  rw [far7.1, far7.2] at HFAR
  rw [ring15] at HERR
  unfold ordersV o7 str at *
  go_enter Try.func10, Try.ntmps10
  go_upto_region 2 with fail
  have q0 := World.alloc_heap_new w (.cells #[.int .i64 3, .int .i64 7, .int .i64 2] 23)
  have HQ0 := Lib.hid q0
  have HB0 := Lib.hid ((Below.refl w.heap.size w).alloc (Nat.le_refl _) (.cells #[.int .i64 3, .int .i64 7, .int .i64 2] 23))
  clear q0
  generalize w.alloc (.cells #[.int .i64 3, .int .i64 7, .int .i64 2] 23) = W0 at *
  have lk0 : w.heap.size < W0.heap.size := (Array.getElem?_eq_some_iff.1 HQ0.out).1
  have k0 := cell_of_heap HQ0.out 0
  have k1 := cell_of_heap HQ0.out 1
  have k2 := cell_of_heap HQ0.out 2
  simp at k0 k1 k2
  have HK := Lib.hid (And.intro k0 (And.intro k1 k2))
  go_wp2_with fail
  refine (HRING.out _).mono ?_
  rintro e w1 ⟨v1, L1, rfl, hq1, ho1, hB1, hr1⟩
  have hL1 : L1 = ring7 := ring7_is hr1
  subst hL1
  have HV1 := Lib.hid hq1
  have HB1 := Lib.hid hB1
  clear hq1 ho1 hB1 hr1 k0 k1 k2
  go_wp2_with fail
  refine (HSER.out _).mono ?_
  rintro e w2 ⟨v2, v3, rfl, hn2, hd2, hB2⟩
  have HV2 := Lib.hid hn2
  have HV3 := Lib.hid hd2
  have HB2' := Lib.hid hB2
  have HB2 := Lib.hid (HB1.out.trans (hB2.mono HB1.out.size))
  clear hn2 hd2 hB2
  go_wp2_with fail
  refine (HCOU.out _).mono ?_
  rintro e w3 ⟨rfl, hB3⟩
  have HB3 := Lib.hid (HB2.out.trans (hB3.mono HB2.out.size))
  have HB3' := Lib.hid hB3
  have c0 := (HB3.out.cell (p := ⟨w.heap.size, 0, none⟩) lk0).trans HK.out.1
  have c1 := (HB3.out.cell (p := ⟨w.heap.size, 1, none⟩) lk0).trans HK.out.2.1
  have c2 := (HB3.out.cell (p := ⟨w.heap.size, 2, none⟩) lk0).trans HK.out.2.2
  clear hB3
  go_wp2_with fail
  refine (HARO.out _).mono ?_
  rintro e w4 ⟨v4, rfl, hq4, ho4, hB4⟩
  have HV4 := Lib.hid hq4
  have HB4' := Lib.hid hB4
  have HB4 := Lib.hid (HB3.out.trans (hB4.mono HB3.out.size))
  have c0 := (HB4.out.cell (p := ⟨w.heap.size, 0, none⟩) lk0).trans HK.out.1
  have c1 := (HB4.out.cell (p := ⟨w.heap.size, 1, none⟩) lk0).trans HK.out.2.1
  have c2 := (HB4.out.cell (p := ⟨w.heap.size, 2, none⟩) lk0).trans HK.out.2.2
  clear hq4 ho4 hB4
  go_wp2_with fail
  refine (HCEL.out _).mono ?_
  rintro e w5 ⟨T, P, S, rfl, hB5, hup⟩
  obtain ⟨hT, hP, hS⟩ := cells7 hup
  rw [hT, hP, hS]
  have HB5' := Lib.hid hB5
  have HB5 := Lib.hid (HB4.out.trans (hB5.mono HB4.out.size))
  have c0 := (HB5.out.cell (p := ⟨w.heap.size, 0, none⟩) lk0).trans HK.out.1
  have c1 := (HB5.out.cell (p := ⟨w.heap.size, 1, none⟩) lk0).trans HK.out.2.1
  have c2 := (HB5.out.cell (p := ⟨w.heap.size, 2, none⟩) lk0).trans HK.out.2.2
  clear hB5 hup hT hP hS
  go_wp2_with fail
  refine (HFAR.out _).mono ?_
  rintro e w6 ⟨rfl, hB6⟩
  have HB6' := Lib.hid hB6
  have HB6 := Lib.hid (HB5.out.trans (hB6.mono HB5.out.size))
  have c0 := (HB6.out.cell (p := ⟨w.heap.size, 0, none⟩) lk0).trans HK.out.1
  have c1 := (HB6.out.cell (p := ⟨w.heap.size, 1, none⟩) lk0).trans HK.out.2.1
  have c2 := (HB6.out.cell (p := ⟨w.heap.size, 2, none⟩) lk0).trans HK.out.2.2
  clear hB6
  go_wp2_with fail
  refine (HERR.out _).mono ?_
  rintro e w7 ⟨rfl, hB7⟩
  have HB7 := Lib.hid (HB6.out.trans (hB7.mono HB6.out.size))
  have HB47 := Lib.hid ((HB5'.out.trans (HB6'.out.mono HB5'.out.size)).trans (hB7.mono (Nat.le_trans HB5'.out.size HB6'.out.size)))
  have HB37 := Lib.hid (HB4'.out.trans (HB47.out.mono HB4'.out.size))
  have HB27 := Lib.hid (HB3'.out.trans (HB37.out.mono HB3'.out.size))
  have HB17 := Lib.hid (HB2'.out.trans (HB27.out.mono HB2'.out.size))
  clear hB7 c0 c1 c2
  go_wp2_with fail
  have hn8 : GQ (w7.alloc (.cells #[.string ⟨#[0, 1]⟩, .string ⟨#[0, 2]⟩, .string ⟨#[1, 0]⟩, .string ⟨#[1, 2]⟩, .string ⟨#[2, 1]⟩] 9)) (.slice (some ⟨w7.heap.size, 0, none⟩) 5 5) (ring7.map str) :=
    .inr ⟨w7.heap.size, QRow.new w7 (ring7.map str) 5 1 9 rfl (by decide)⟩
  have hb8 := (Below.refl w7.heap.size w7).alloc (Nat.le_refl _) (.cells #[.string ⟨#[0, 1]⟩, .string ⟨#[0, 2]⟩, .string ⟨#[1, 0]⟩, .string ⟨#[1, 2]⟩, .string ⟨#[2, 1]⟩] 9)
  have hv8 := GQ.later (GQ.later HV1.out HB17.out) hb8
  have HS8 := Lib.hid (r04_SameWords hv8 hn8 (by decide) (by decide))
  have HB8 := Lib.hid hb8
  rw [show decide (ring7 = ring7) = true from by simp] at HS8
  clear hn8 hb8 hv8
  refine HS8.out.mono ?_
  rintro e w8 ⟨rfl, hB8⟩
  have HB78 := Lib.hid (HB8.out.trans (hB8.mono HB8.out.size))
  clear hB8 HS8
  go_wp2_with fail
  have hb9 := (Below.refl w8.heap.size w8).alloc (Nat.le_refl _) (.cells #[.int .i64 1, .int .i64 1] 3)
  have hn9 : PR .i64 (w8.alloc (.cells #[.int .i64 1, .int .i64 1] 3)) (.slice (some ⟨w8.heap.size, 0, none⟩) 2 2) [1, 1] := (IQ.new .i64 w8 [1, 1] 3 (by decide)).pr
  have HS9 := Lib.hid (r04_Same (((HV2.out.later HB27.out).later HB78.out).later hb9) hn9 (by decide) (by decide))
  have HB9 := Lib.hid hb9
  clear hn9 hb9
  refine HS9.out.mono ?_
  rintro e w9 ⟨rfl, hB9⟩
  have HB89 := Lib.hid (HB9.out.trans (hB9.mono HB9.out.size))
  clear hB9 HS9
  go_wp2_with fail
  have hb10 := (Below.refl w9.heap.size w9).alloc (Nat.le_refl _) (.cells #[.int .i64 1, .int .i64 (-2)] 3)
  have hn10 : PR .i64 (w9.alloc (.cells #[.int .i64 1, .int .i64 (-2)] 3)) (.slice (some ⟨w9.heap.size, 0, none⟩) 2 2) [1, -2] := (IQ.new .i64 w9 [1, -2] 3 (by decide)).pr
  have HS10 := Lib.hid (r04_Same ((((HV3.out.later HB27.out).later HB78.out).later HB89.out).later hb10) hn10 (by decide) (by decide))
  have HB10 := Lib.hid hb10
  clear hn10 hb10
  refine HS10.out.mono ?_
  rintro e w10 ⟨rfl, hB10⟩
  have HB910 := Lib.hid (HB10.out.trans (hB10.mono HB10.out.size))
  clear hB10 HS10
  obtain ⟨a4, c4, hv4⟩ : ∃ a c, v4 = .slice a 6 c := by
    obtain ⟨a, c, h, _⟩ := HV4.out.open
    exact ⟨a, c, h.trans (congrArg (fun n => Value.slice a n c) around7)⟩
  subst hv4
  go_wp2_with fail
  go_returns
  exact ⟨rfl, HB0.out.trans ((HB7.out.trans (HB78.out.mono HB7.out.size) |>.trans ((HB89.out.trans (HB910.out.mono HB89.out.size)).mono (Nat.le_trans HB7.out.size HB78.out.size))).mono HB0.out.size)⟩
end Go.Proofs.Ytdckpjagmbdkgaa
