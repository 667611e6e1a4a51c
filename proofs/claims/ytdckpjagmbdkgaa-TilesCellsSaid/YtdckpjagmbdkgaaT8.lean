import Derived.Test.YtdckpjagmbdkgaaT5
import Derived.Test.YtdckpjagmbdkgaaCorn
import Derived.Handy
import Derived.Test.YtdckpjagmbdkgaaP1

/- The corner of a tile, as package tiles finds it. -/
namespace Go.Proofs.Ytdckpjagmbdkgaa
set_option linter.unusedSimpArgs false
set_option linter.unusedVariables false
open Go.RowKit
open Hy (Lets Inv Gr Leads bot No wd tod dnb V)

def fstM (mi : Nat) : Nat := if mi = 0 then 1 else 0
def sndM (mi : Nat) : Nat := if mi = 2 then 1 else 2

/-- The error of a corner. -/
def cornErr (a b c : Int) (l : List UInt8) (mi : Int) : Int :=
  if Hy.allErr a b c [l] ≠ 0 then Hy.allErr a b c [l] else if mi < 0 ∨ 2 < mi then 1 else if (Hy.toOrd a b c).m (fstM mi.toNat) (sndM mi.toNat) = 0 then 4 else 0

def CornPost (o : Hy.Ord) (l : List UInt8) (mi : Nat) (w : World) (e : Ending) (w' : World) : Prop :=
  ∃ (gb rb : Nat) (v : Value) (G : List Hy.Node) (x : Nat), e = .returned (.tuple #[.pointer (some ⟨gb, 0, none⟩), .int .i64 (bot G (fstM mi) (sndM mi) (wd G x).length x : Nat), .int .i64 (fstM mi : Nat), .int .i64 (sndM mi : Nat), .int .i64 0]) ∧
    TG w' o (fun k => w.heap.size ≤ k) gb rb v G ∧ Gr o G (2 * l.length) ∧ Leads G 0 l x ∧ x < G.length ∧ Below w.heap.size w w'

theorem order_small {o : Hy.Ord} (ho : Small o) (i j : Nat) : o.m i j ≤ 12 := by
  have h1 := ho.a; have h2 := ho.b; have h3 := ho.c
  unfold Hy.Ord.m
  split
  · omega
  · split <;> omega

theorem corner_index (mi : Nat) (hmi : mi ≤ 2) : ∀ W, (Instr.index 94 (.agg #[.int .i64 1, .int .i64 2, .int .i64 0, .int .i64 2, .int .i64 0, .int .i64 1]) (.int .i64 mi)).run Try.prog W = .ok (.agg #[.int .i64 (fstM mi : Nat), .int .i64 (sndM mi : Nat)]) W := by
  have i0 : ∀ W, (Instr.index 94 (.agg #[.int .i64 1, .int .i64 2, .int .i64 0, .int .i64 2, .int .i64 0, .int .i64 1]) (.int .i64 0)).run Try.prog W = .ok (.agg #[.int .i64 1, .int .i64 2]) W := fun _ => by kernel_rfl
  have i1 : ∀ W, (Instr.index 94 (.agg #[.int .i64 1, .int .i64 2, .int .i64 0, .int .i64 2, .int .i64 0, .int .i64 1]) (.int .i64 1)).run Try.prog W = .ok (.agg #[.int .i64 0, .int .i64 2]) W := fun _ => by kernel_rfl
  have i2 : ∀ W, (Instr.index 94 (.agg #[.int .i64 1, .int .i64 2, .int .i64 0, .int .i64 2, .int .i64 0, .int .i64 1]) (.int .i64 2)).run Try.prog W = .ok (.agg #[.int .i64 0, .int .i64 1]) W := fun _ => by kernel_rfl
  intro W
  have : mi = 0 ∨ mi = 1 ∨ mi = 2 := by omega
  rcases this with h | h | h
  · rw [h]; exact i0 W
  · rw [h]; exact i1 W
  · rw [h]; exact i2 W

set_option maxRecDepth 100000 in
set_option maxHeartbeats 4000000 in
theorem t04_corner_ok (o : Hy.Ord) (l : List UInt8) (mi : Nat) (w : World) (he : Hy.allErr o.m01 o.m12 o.m02 [l] = 0) (hmi : mi ≤ 2) (hm : 0 < o.m (fstM mi) (sndM mi)) :
    Calls Try.prog 45 #[ordersV o.m01 o.m12 o.m02, str l, .int .i64 mi] w (CornPost o l mi w) := by
  have h1 : Hy.ordErr o.m01 o.m12 o.m02 = 0 := by
    by_cases h : Hy.ordErr o.m01 o.m12 o.m02 = 0
    · exact h
    · rw [Hy.allErr_bad h] at he; exact absurd he h
  have F : Hy.Fine o := Hy.fine_of h1
  have h0 := Hy.ordErr_zero h1
  have HO : Small o := ⟨by omega, by omega, by omega⟩
  have he2 := he
  rw [Hy.allErr_ok h1, Hy.wordsErr_one] at he2
  obtain ⟨hl3, hl60⟩ := Hy.wordErr_letters he2
  have hL : Lets l := lets_of_err he2
  obtain ⟨nf, hnf, _⟩ := Hy.norm_ok F (fuel := 1000) (w := l) hL (by omega) (by omega)
  have HN := Lib.hid (fun W => words_Normal o.m01 o.m12 o.m02 l W (by omega) 1000 nf (fun _ => hnf))
  rw [he, if_pos rfl] at HN
  obtain ⟨G, x, hwalk, hgr, hlead⟩ := Hy.Gr.walk F hL (by omega)
  have hxl := Hy.leads_lt hgr.inv hgr.inv.pos hlead
  have hGl := hgr.len F
  have HWK := Lib.hid (fun (W : World) (B : Nat → Prop) (gb rb : Nat) (v : Value) (h : TG W o B gb rb v Hy.start) (hF : Free B W) => t04_walk HO 1000 (lim := 1000000000) (Nat.le_refl _) h hF l hl3 (by omega) 0 (by simp [Hy.start]) G x hwalk (by omega))
  have HGN := Lib.hid (fun W => t04_grown o W)
  have HOR := Lib.hid (fun (W : World) (gb : Nat) (v : Value) hg => t04_order (w := W) (o := o) (gb := gb) (v := v) hg (fstM mi) (sndM mi) (by unfold fstM; split <;> omega) (by unfold sndM; split <;> omega) (by unfold fstM sndM; split <;> split <;> omega))
  have HGR := Lib.hid hgr; have HLD := Lib.hid hlead; have HXL := Lib.hid hxl
  have q0 := alloc_heap_new w (.cells #[.int .i64 o.m01, .int .i64 o.m12, .int .i64 o.m02] 23)
  have hb0 : Below w.heap.size w (w.alloc (.cells #[.int .i64 o.m01, .int .i64 o.m12, .int .i64 o.m02] 23)) := (Below.refl _ _).alloc (Nat.le_refl _) _
  have HQ0 := Lib.hid q0
  have HB0 := Lib.hid hb0
  obtain ⟨f, hf⟩ : ∃ f, f = fstM mi := ⟨_, rfl⟩
  obtain ⟨s, hs⟩ : ∃ s, s = sndM mi := ⟨_, rfl⟩
  have HF := Lib.hid hf; have HS := Lib.hid hs
  have hf2 : f ≤ 1 := by rw [hf]; unfold fstM; split <;> omega
  have hs2 : s ≤ 2 := by rw [hs]; unfold sndM; split <;> omega
  have hix := corner_index mi hmi
  rw [← hf, ← hs] at hix
  have HM := Lib.hid hm
  rw [← hf, ← hs] at HM HOR
  have HMB := Lib.hid (order_small HO f s)
  unfold CornPost
  unfold str ordersV at *
  clear he h1 h0 he2 hl3 hl60 hL hnf hwalk hgr hlead hxl hGl q0 hb0 hm hf hs F
  go_enter Try.func45, Try.ntmps45
  go_upto_region 1 with fail
  generalize w.alloc (.cells #[.int .i64 o.m01, .int .i64 o.m12, .int .i64 o.m02] 23) = W0 at *
  have k0 := cell_of_heap HQ0.out 0
  have k1 := cell_of_heap HQ0.out 1
  have k2 := cell_of_heap HQ0.out 2
  simp at k0 k1 k2
  have hl0 : w.heap.size < W0.heap.size := (Array.getElem?_eq_some_iff.1 HQ0.out).1
  go_wp2_with fail
  refine (HN.out _).mono ?_
  rintro e w1 ⟨rfl, hB1⟩
  have HB1 := Lib.hid (HB0.out.trans (hB1.mono HB0.out.size))
  have c0 := (hB1.cell (p := ⟨w.heap.size, 0, none⟩) hl0).trans k0
  have c1 := (hB1.cell (p := ⟨w.heap.size, 1, none⟩) hl0).trans k1
  have c2 := (hB1.cell (p := ⟨w.heap.size, 2, none⟩) hl0).trans k2
  clear k0 k1 k2 hB1
  have hmi2 : (mi : Int) ≤ 2 := by omega
  go_wp2_with fail
  refine (HGN.out _).mono ?_
  rintro e w2 ⟨gb, rb, v, rfl, hT, hB2⟩
  have HT := Lib.hid hT
  have HB2 := Lib.hid (HB1.out.trans (hB2.mono HB1.out.size))
  clear hT hB2 c0 c1 c2
  go_wp2_with fail
  go_region
  generalize hW3 : (w2.alloc (.cells #[.int .i64 f, .int .i64 s] 93)).drew = W3 at *
  have hb3 : Below w2.heap.size w2 W3 := by rw [← hW3]; exact ((Below.refl _ _).alloc (Nat.le_refl _) _).drew
  have HT3 := Lib.hid (HT.out.heap hb3)
  have HB3 := Lib.hid (HB2.out.trans (hb3.mono HB2.out.size))
  clear hW3 hb3 HT HB2
  have hm0 : (((o.m f s : Nat) : Int) == 0) = false := by rw [beq_eq_false_iff_ne]; have := HM.out; omega
  go_wp2_with fail
  refine (HOR.out _ _ _ HT3.out.graph).mono ?_
  rintro e w4 ⟨rfl, hB4⟩
  have HT4 := Lib.hid (HT3.out.heap hB4)
  have HB4 := Lib.hid (HB3.out.trans (hB4.mono HB3.out.size))
  clear hB4 HT3 HB3
  go_wp2_with fail
  refine (HWK.out _ _ _ _ _ (HT4.out.sub (B' := fun k => w.heap.size ≤ k) (Nat.le_trans HB1.out.size HT4.out.lo.1) (Nat.le_trans HB1.out.size HT4.out.lo.2)) (fun k hk => Nat.le_trans HB4.out.size hk)).mono ?_
  rintro e w5 ⟨rb5, v5, rfl, hT5, hO5, _, _⟩
  have HT5 := Lib.hid hT5
  have HB5 := Lib.hid (HB4.out.trans (hO5.below (fun k hk => hk)))
  obtain ⟨off, cap, rfl, hg, hnode, _⟩ := hT5.opened
  have HNODE := Lib.hid hnode
  clear hT5 hO5 hnode HT4 HB4
  obtain ⟨tgt, htgt⟩ : ∃ tgt, tgt = bot G f s (wd G x).length x := ⟨_, rfl⟩
  have HTG := Lib.hid htgt
  have HTG2 := Lib.hid htgt.symm
  clear htgt
  go_wp2_with fail
  go_loop [14] (fun v => ∃ y : Nat, v = .int .i64 y ∧ y < G.length ∧ Hid (bot G f s (wd G y).length y = tgt)) (fun v => (wd G (intOf v).toNat).length)
  case atStart => exact ⟨x, rfl, HXL.out, HTG2⟩
  case round =>
    obtain ⟨y, rfl, hy, HBT⟩ := hrel
    obtain ⟨n, hn⟩ : ∃ n, G[y]? = some n := ⟨G[y], List.getElem?_eq_getElem hy⟩
    have N := HNODE.out y n hn
    have d1 := N.ndown f (by omega)
    have d2 := N.ndown s (by omega)
    have t1 := N.nto f (by omega)
    have t2 := N.nto s (by omega)
    have e1 : dnb G y f = n.down f := by unfold dnb; rw [hn]
    have e2 : dnb G y s = n.down s := by unfold dnb; rw [hn]
    have e3 : tod G y f = n.to f := by unfold tod; rw [hn]
    have e4 : tod G y s = n.to s := by unfold tod; rw [hn]
    have low : ∀ r, dnb G y r = true → ∃ z, tod G y r = some z ∧ z < G.length ∧ (wd G y).length = (wd G z).length + 1 := fun r hr => by
      obtain ⟨z, h1, h2⟩ := HGR.out.inv.lo hr
      exact ⟨z, h1, Hy.tod_lt (HGR.out.inv.sym h1).2, h2⟩
    have hyi : (y : Int) < (G.length : Int) := by omega
    have HBT2 := HBT.out
    cases hdf : n.down f with
    | true =>
      obtain ⟨z, h1, h2, h3⟩ := low f (by rw [e1, hdf])
      rw [h3] at HBT2
      unfold bot at HBT2
      rw [e1, hdf, if_pos rfl, h1, Option.getD_some] at HBT2
      rw [e3] at h1
      rw [h1] at t1
      rw [hdf] at d1
      have HB' := Lib.hid HBT2
      have H3 := Lib.hid h3
      clear N d2 t2 e1 e2 e3 e4 low HBT HBT2 h1 h3 hn hdf
      go_wp2_with fail
      go_round
      case rel => exact ⟨z, rfl, h2, HB'⟩
      case measure => have h3 := H3.out; simp [intOf, ix]; omega
    | false =>
      cases hds : n.down s with
      | true =>
        obtain ⟨z, h1, h2, h3⟩ := low s (by rw [e2, hds])
        rw [h3] at HBT2
        unfold bot at HBT2
        rw [e1, hdf, if_neg (by simp), e2, hds, if_pos rfl, h1, Option.getD_some] at HBT2
        rw [e4] at h1
        rw [h1] at t2
        rw [hdf] at d1
        rw [hds] at d2
        have HB' := Lib.hid HBT2
        have H3 := Lib.hid h3
        clear N t1 e1 e2 e3 e4 low HBT HBT2 h1 h3 hn hdf hds
        go_wp2_with fail
        go_round
        case rel => exact ⟨z, rfl, h2, HB'⟩
        case measure => have := H3.out; simp [intOf, ix]; omega
      | false =>
        have hend : bot G f s (wd G y).length y = y := by
          cases (wd G y).length with
          | zero => rfl
          | succ k => unfold bot; rw [e1, hdf, if_neg (by simp), e2, hds, if_neg (by simp)]
        rw [hend] at HBT2
        rw [hdf] at d1
        rw [hds] at d2
        have HE := Lib.hid HBT2
        clear N t1 t2 e1 e2 e3 e4 low HBT HBT2 hend hn hdf hds
        go_wp2_with fail
        go_returns
        refine ⟨gb, rb5, _, G, x, ?_, HT5.out, HGR.out, HLD.out, HXL.out, HB5.out⟩
        rw [← HF.out, ← HS.out, ← HTG.out, ← HE.out]

theorem toOrd_casts {a b c : Int} (h : Hy.ordErr a b c = 0) : ((Hy.toOrd a b c).m01 : Int) = a ∧ ((Hy.toOrd a b c).m12 : Int) = b ∧ ((Hy.toOrd a b c).m02 : Int) = c := by
  obtain ⟨h1, h2, h3⟩ := Hy.ordErr_zero h
  unfold Hy.toOrd
  simp
  omega
theorem allErr_ord {a b c : Int} {ws : List (List UInt8)} (h : Hy.allErr a b c ws = 0) : Hy.ordErr a b c = 0 := by
  by_cases h1 : Hy.ordErr a b c = 0
  · exact h1
  · rw [Hy.allErr_bad h1] at h; exact absurd h h1

set_option maxRecDepth 100000 in
set_option maxHeartbeats 4000000 in
/-- The errors of a corner. -/
theorem t04_corner_err (a b c : Int) (l : List UInt8) (mi : Int) (w : World) (hl : l.length ≤ 9223372036854775807) (he : cornErr a b c l mi ≠ 0) :
    Calls Try.prog 45 #[ordersV a b c, str l, .int .i64 mi] w fun e w' => e = .returned (.tuple #[.pointer none, .int .i64 0, .int .i64 0, .int .i64 0, .int .i64 (cornErr a b c l mi)]) ∧ Below w.heap.size w w' := by
  have hnf : ∃ nf, Hy.allErr a b c [l] = 0 → Hy.norm (Hy.toOrd a b c) 1000 l = some nf := by
    by_cases h : Hy.allErr a b c [l] = 0
    · have h1 := allErr_ord h
      have h2 := h
      rw [Hy.allErr_ok h1, Hy.wordsErr_one] at h2
      obtain ⟨nf, hnf, _⟩ := Hy.norm_ok (Hy.fine_of h1) (fuel := 1000) (w := l) (lets_of_err h2) (by have := (Hy.wordErr_letters h2).2; omega) (by have := (Hy.wordErr_letters h2).2; omega)
      exact ⟨nf, fun _ => hnf⟩
    · exact ⟨[], fun h' => absurd h' h⟩
  obtain ⟨nf, hnf⟩ := hnf
  have HN := Lib.hid (fun W => words_Normal a b c l W hl 1000 nf hnf)
  have q0 := alloc_heap_new w (.cells #[.int .i64 a, .int .i64 b, .int .i64 c] 23)
  have hb0 : Below w.heap.size w (w.alloc (.cells #[.int .i64 a, .int .i64 b, .int .i64 c] 23)) := (Below.refl _ _).alloc (Nat.le_refl _) _
  have HQ0 := Lib.hid q0
  have HB0 := Lib.hid hb0
  clear q0 hb0 hnf
  by_cases hae : Hy.allErr a b c [l] = 0
  · rw [hae, if_pos rfl] at HN
    have hce : cornErr a b c l mi = if mi < 0 ∨ 2 < mi then 1 else if (Hy.toOrd a b c).m (fstM mi.toNat) (sndM mi.toNat) = 0 then 4 else 0 := by unfold cornErr; rw [if_neg (by simp [hae])]
    by_cases hmi : mi < 0 ∨ 2 < mi
    · rw [if_pos hmi] at hce
      rw [hce]
      clear he hce hae
      have hmib : (decide (mi < 0) || decide (2 < mi)) = true := by simp; omega
      unfold str ordersV at *
      go_enter Try.func45, Try.ntmps45
      go_upto_region 1 with fail
      generalize w.alloc (.cells #[.int .i64 a, .int .i64 b, .int .i64 c] 23) = W0 at *
      have k0 := cell_of_heap HQ0.out 0
      have k1 := cell_of_heap HQ0.out 1
      have k2 := cell_of_heap HQ0.out 2
      simp at k0 k1 k2
      go_wp2_with fail
      refine (HN.out _).mono ?_
      rintro e w1 ⟨rfl, hB1⟩
      have HB1 := Lib.hid (HB0.out.trans (hB1.mono HB0.out.size))
      clear hB1 k0 k1 k2
      rcases hmi with hmi | hmi
      · go_wp2_with fail
        go_returns
        exact ⟨rfl, HB1.out⟩
      · have hmi3 : ¬ mi < 0 := by omega
        go_wp2_with fail
        go_returns
        exact ⟨rfl, HB1.out⟩
    · rw [if_neg hmi] at hce
      have hO : (Hy.toOrd a b c).m (fstM mi.toNat) (sndM mi.toNat) = 0 := by
        by_cases h : (Hy.toOrd a b c).m (fstM mi.toNat) (sndM mi.toNat) = 0
        · exact h
        · rw [if_neg h] at hce; exact absurd hce he
      rw [if_pos hO] at hce
      rw [hce]
      obtain ⟨i1, i2, i3⟩ := toOrd_casts (allErr_ord hae)
      obtain ⟨o, ho⟩ : ∃ o, o = Hy.toOrd a b c := ⟨_, rfl⟩
      rw [← ho] at i1 i2 i3 hO
      subst i1 i2 i3
      obtain ⟨m, rfl⟩ : ∃ m : Nat, mi = (m : Int) := ⟨mi.toNat, by omega⟩
      simp only [Int.toNat_natCast] at hO
      have hmi2 : (m : Int) ≤ 2 := by omega
      clear he hce hae ho
      have HGN := Lib.hid (fun W => t04_grown o W)
      have HOR := Lib.hid (fun (W : World) (gb : Nat) (v : Value) hg => t04_order (w := W) (o := o) (gb := gb) (v := v) hg (fstM m) (sndM m) (by unfold fstM; split <;> omega) (by unfold sndM; split <;> omega) (by unfold fstM sndM; split <;> split <;> omega))
      rw [hO] at HOR
      obtain ⟨f, hf⟩ : ∃ f, f = fstM m := ⟨_, rfl⟩
      obtain ⟨s, hs⟩ : ∃ s, s = sndM m := ⟨_, rfl⟩
      rw [← hf, ← hs] at HOR
      have hix := corner_index m (by omega)
      rw [← hf, ← hs] at hix
      have hf2 : f ≤ 1 := by rw [hf]; unfold fstM; split <;> omega
      have hs2 : s ≤ 2 := by rw [hs]; unfold sndM; split <;> omega
      clear hf hs hO hmi
      unfold str ordersV GrownPost at *
      go_enter Try.func45, Try.ntmps45
      go_upto_region 1 with fail
      generalize w.alloc (.cells #[.int .i64 o.m01, .int .i64 o.m12, .int .i64 o.m02] 23) = W0 at *
      have k0 := cell_of_heap HQ0.out 0
      have k1 := cell_of_heap HQ0.out 1
      have k2 := cell_of_heap HQ0.out 2
      simp at k0 k1 k2
      have hl0 : w.heap.size < W0.heap.size := (Array.getElem?_eq_some_iff.1 HQ0.out).1
      go_wp2_with fail
      refine (HN.out _).mono ?_
      rintro e w1 ⟨rfl, hB1⟩
      have HB1 := Lib.hid (HB0.out.trans (hB1.mono HB0.out.size))
      have c0 := (hB1.cell (p := ⟨w.heap.size, 0, none⟩) hl0).trans k0
      have c1 := (hB1.cell (p := ⟨w.heap.size, 1, none⟩) hl0).trans k1
      have c2 := (hB1.cell (p := ⟨w.heap.size, 2, none⟩) hl0).trans k2
      clear k0 k1 k2 hB1
      go_wp2_with fail
      refine (HGN.out _).mono ?_
      rintro e w2 ⟨gb, rb, v, rfl, hT, hB2⟩
      have HT := Lib.hid hT
      have HB2 := Lib.hid (HB1.out.trans (hB2.mono HB1.out.size))
      clear hT hB2 c0 c1 c2
      go_wp2_with fail
      go_region
      generalize hW3 : (w2.alloc (.cells #[.int .i64 f, .int .i64 s] 93)).drew = W3 at *
      have hb3 : Below w2.heap.size w2 W3 := by rw [← hW3]; exact ((Below.refl _ _).alloc (Nat.le_refl _) _).drew
      have HT3 := Lib.hid (HT.out.heap hb3)
      have HB3 := Lib.hid (HB2.out.trans (hb3.mono HB2.out.size))
      clear hW3 hb3 HT HB2
      go_wp2_with fail
      refine (HOR.out _ _ _ HT3.out.graph).mono ?_
      rintro e w4 ⟨rfl, hB4⟩
      have HB4 := Lib.hid (HB3.out.trans (hB4.mono HB3.out.size))
      clear hB4 HT3 HB3
      go_wp2_with fail
      go_returns
      exact ⟨rfl, HB4.out⟩
  · have hce : cornErr a b c l mi = Hy.allErr a b c [l] := by unfold cornErr; rw [if_pos hae]
    rw [hce]
    rw [if_neg hae] at HN
    have hne : (Hy.allErr a b c [l] != 0) = true := by rw [bne_iff_ne]; exact hae
    generalize Hy.allErr a b c [l] = er at *
    clear he hce hae
    unfold str ordersV at *
    go_enter Try.func45, Try.ntmps45
    go_upto_region 1 with fail
    generalize w.alloc (.cells #[.int .i64 a, .int .i64 b, .int .i64 c] 23) = W0 at *
    have k0 := cell_of_heap HQ0.out 0
    have k1 := cell_of_heap HQ0.out 1
    have k2 := cell_of_heap HQ0.out 2
    simp at k0 k1 k2
    go_wp2_with fail
    refine (HN.out _).mono ?_
    rintro e w1 ⟨rfl, hB1⟩
    have HB1 := Lib.hid (HB0.out.trans (hB1.mono HB0.out.size))
    clear hB1 k0 k1 k2
    go_wp2_with fail
    go_returns
    exact ⟨rfl, HB1.out⟩
end Go.Proofs.Ytdckpjagmbdkgaa

/- First and Around of package tiles. -/
namespace Go.Proofs.Ytdckpjagmbdkgaa
set_option linter.unusedSimpArgs false
set_option linter.unusedVariables false
open Go.RowKit
open Hy (Lets Inv Gr Leads bot No wd tod dnb V InC aroundW alt)

theorem cornErr_zero {a b c : Int} {l : List UInt8} {mi : Int} (h : cornErr a b c l mi = 0) : Hy.allErr a b c [l] = 0 ∧ ∃ m : Nat, mi = m ∧ m ≤ 2 ∧ 0 < (Hy.toOrd a b c).m (fstM m) (sndM m) := by
  unfold cornErr at h
  by_cases h1 : Hy.allErr a b c [l] = 0
  · rw [if_neg (by simp [h1])] at h
    refine ⟨h1, ?_⟩
    by_cases h2 : mi < 0 ∨ 2 < mi
    · rw [if_pos h2] at h; cases h
    · rw [if_neg h2] at h
      refine ⟨mi.toNat, by omega, by omega, ?_⟩
      by_cases h3 : (Hy.toOrd a b c).m (fstM mi.toNat) (sndM mi.toNat) = 0
      · rw [if_pos h3] at h; cases h
      · omega
  · rw [if_pos h1] at h; exact absurd h h1

theorem fst_snd (mi : Nat) : fstM mi < 3 ∧ sndM mi < 3 ∧ fstM mi ≠ sndM mi := by
  unfold fstM sndM
  refine ⟨?_, ?_, ?_⟩
  · split <;> omega
  · split <;> omega
  · split <;> split <;> omega

/-- What Around returns. -/
def aroundOf (a b c : Int) (l : List UInt8) (mi : Int) : List (List UInt8) := aroundW (Hy.toOrd a b c) l (fstM mi.toNat) (sndM mi.toNat)

/-- A tile and the first tile around its corner. -/
structure Cor (o : Hy.Ord) (G : List Hy.Node) (l : List UInt8) (f s x z : Nat) : Prop where
  xl : x < G.length
  zl : z < G.length
  lead : Leads G 0 l x
  inC : InC G (o.m f s) f s z x
  d1 : dnb G z f = false
  d2 : dnb G z s = false

theorem Cor.ext {o : Hy.Ord} {G G' : List Hy.Node} {l : List UInt8} {f s x z b : Nat} (h : Cor o G l f s x z) (I : Inv o G No) (X : Hy.Ext G G' b) : Cor o G' l f s x z :=
  ⟨Nat.lt_of_lt_of_le h.xl X.len, Nat.lt_of_lt_of_le h.zl X.len, Hy.leads_ext X h.lead, h.inC.ext I X h.xl, Hy.bot_ext X h.zl h.d1, Hy.bot_ext X h.zl h.d2⟩

theorem Cor.at {o : Hy.Ord} (F : Hy.Fine o) {G : List Hy.Node} {l : List UInt8} {f s x z : Nat} (h : Cor o G l f s x z) (I : Inv o G No) (hf : f < 3) (hs : s < 3) (hfs : f ≠ s) (hm : 0 < o.m f s) (hl : Lets l) (hl60 : l.length ≤ 60) {i t : Nat} (hi : i < 2 * o.m f s) (ht : Leads G z (V i f s) t) : (aroundW o l f s)[i]? = some (wd G t) :=
  (Hy.around_ok F I hf hs hfs hm h.xl h.d1 h.d2 h.inC hl (by omega) h.lead).2.2 i t hi ht

theorem Cor.mk' {o : Hy.Ord} {G : List Hy.Node} {l : List UInt8} {f s x : Nat} (I : Inv o G No) (hf : f < 3) (hs : s < 3) (hfs : f ≠ s) (hm : 0 < o.m f s) (hx : x < G.length) (hlead : Leads G 0 l x) : Cor o G l f s x (bot G f s (wd G x).length x) := by
  obtain ⟨h1, h2, h3⟩ := Hy.bot_in I hf hs hfs hm (Nat.le_refl (wd G x).length)
  exact ⟨hx, h1.lt I hx, hlead, h1, h2, h3⟩

theorem Cor.short {o : Hy.Ord} (F : Hy.Fine o) {G : List Hy.Node} {l : List UInt8} {f s x z : Nat} (h : Cor o G l f s x z) (I : Inv o G No) (hl : Lets l) : (wd G z).length ≤ l.length := by
  obtain ⟨n, hn, h'⟩ := h.inC
  have h1 : (wd G x).length = (wd G z).length + n := by rcases h' with h' | h' <;> exact Hy.Dch_len I h'
  have h2 := (Hy.nf_of_leads F I hl h.lead).len
  omega

theorem GQ.only {w w' : World} {v : Value} {xs : List Value} (h : GQ w v xs) {B : Nat → Prop} (ho : Only B w w') (hB : ∀ b, v.ownBlock = some b → ¬ B b) : GQ w' v xs := by
  rcases h with h | ⟨g, h⟩
  · exact .inl h
  · refine .inr ⟨g, h.of_heap (ho.block g (hB g ?_)) ho.size⟩
    obtain ⟨off, cap, rfl, _⟩ := h
    rfl

theorem TG.only {w w' : World} {o : Hy.Ord} {B : Nat → Prop} {gb rb : Nat} {v : Value} {G : List Hy.Node} (h : TG w o B gb rb v G) {B' : Nat → Prop} (ho : Only B' w w') (h1 : ¬ B' gb) (h2 : ¬ B' rb) : TG w' o B gb rb v G :=
  ⟨(ho.block gb h1).trans h.graph, h.row.of_heap (ho.block rb h2) ho.size, h.ne, h.lo, h.closed⟩

theorem rowStr : RowType Try.prog 26 9 1 := rowType_of (z := .string ⟨#[]⟩) Try.underlying26 (bytes := 16) (by kernel_rfl) rfl (by decide) (by decide)

set_option maxRecDepth 100000 in
set_option maxHeartbeats 2000000 in
theorem t04_First (a b c : Int) (l : List UInt8) (mi : Int) (w : World) (hl : l.length ≤ 9223372036854775807) :
    Calls Try.prog 22 #[ordersV a b c, str l, .int .i64 mi] w fun e w' => e = .returned (.tuple #[str (if cornErr a b c l mi = 0 then (aroundOf a b c l mi).headD [] else []), .int .i64 (cornErr a b c l mi)]) ∧ Below w.heap.size w w' := by
  have q0 := alloc_heap_new w (.cells #[.int .i64 a, .int .i64 b, .int .i64 c] 23)
  have hb0 : Below w.heap.size w (w.alloc (.cells #[.int .i64 a, .int .i64 b, .int .i64 c] 23)) := (Below.refl _ _).alloc (Nat.le_refl _) _
  have HQ0 := Lib.hid q0
  have HB0 := Lib.hid hb0
  clear q0 hb0
  by_cases he : cornErr a b c l mi = 0
  · rw [if_pos he, he]
    obtain ⟨h1, m, rfl, hm2, hm⟩ := cornErr_zero he
    unfold aroundOf
    rw [Int.toNat_natCast]
    have h2 := allErr_ord h1
    have F := Hy.fine_of h2
    obtain ⟨i1, i2, i3⟩ := toOrd_casts h2
    have hle := h1
    rw [Hy.allErr_ok h2, Hy.wordsErr_one] at hle
    have HL := Lib.hid (lets_of_err hle)
    have HL60 := Lib.hid (Hy.wordErr_letters hle).2
    obtain ⟨o, ho⟩ : ∃ o, o = Hy.toOrd a b c := ⟨_, rfl⟩
    rw [← ho] at i1 i2 i3 hm F ⊢
    subst i1 i2 i3
    have HF := Lib.hid F
    have HM := Lib.hid hm
    have HCO := Lib.hid (fun W => t04_corner_ok o l m W h1 hm2 hm)
    unfold CornPost at HCO
    unfold str ordersV at *
    clear he h1 h2 F hle ho hm hl
    go_enter Try.func22, Try.ntmps22
    go_upto_region 1 with fail
    generalize w.alloc (.cells #[.int .i64 o.m01, .int .i64 o.m12, .int .i64 o.m02] 23) = W0 at *
    have k0 := cell_of_heap HQ0.out 0
    have k1 := cell_of_heap HQ0.out 1
    have k2 := cell_of_heap HQ0.out 2
    simp at k0 k1 k2
    go_wp2_with fail
    refine (HCO.out _).mono ?_
    rintro e w1 ⟨gb, rb, v, G, x, rfl, hT, hG, hlead, hx, hB1⟩
    have fs := fst_snd m
    have hC := Cor.mk' hG.inv fs.1 fs.2.1 fs.2.2 HM.out hx hlead
    have hat := hC.at HF.out hG.inv fs.1 fs.2.1 fs.2.2 HM.out HL.out HL60.out (i := 0) (by have := HM.out; omega) rfl
    generalize bot G (fstM m) (sndM m) (wd G x).length x = z at hC hat ⊢
    obtain ⟨n, hn⟩ : ∃ n, G[z]? = some n := ⟨G[z]'hC.zl, List.getElem?_eq_getElem hC.zl⟩
    obtain ⟨off, cap, rfl, hg, hnode, _⟩ := hT.opened
    have N := (hnode z n hn).nword
    have hw : wd G z = n.word := by unfold wd; rw [hn]
    have HB1 := Lib.hid (HB0.out.trans (hB1.mono HB0.out.size))
    have HH := Lib.hid (show (aroundW o l (fstM m) (sndM m)).headD [] = n.word from by
      rw [← hw]
      cases h : aroundW o l (fstM m) (sndM m) with
      | nil => rw [h] at hat; cases hat
      | cons y ys => rw [h] at hat; simpa using hat)
    have hzl : (z : Int) < (G.length : Int) := by have := hC.zl; omega
    unfold str at N
    clear hT hG hlead hx hB1 hC hat hn hnode hw k0 k1 k2
    go_wp2_with fail
    go_returns
    exact ⟨by rw [HH.out]; rfl, HB1.out⟩
  · rw [if_neg he]
    have HCO := Lib.hid (fun W => t04_corner_err a b c l mi W hl he)
    have hne : (cornErr a b c l mi != 0) = true := by rw [bne_iff_ne]; exact he
    generalize cornErr a b c l mi = er at *
    clear he
    unfold str ordersV at *
    go_enter Try.func22, Try.ntmps22
    go_upto_region 1 with fail
    generalize w.alloc (.cells #[.int .i64 a, .int .i64 b, .int .i64 c] 23) = W0 at *
    have k0 := cell_of_heap HQ0.out 0
    have k1 := cell_of_heap HQ0.out 1
    have k2 := cell_of_heap HQ0.out 2
    simp at k0 k1 k2
    go_wp2_with fail
    refine (HCO.out _).mono ?_
    rintro e w1 ⟨rfl, hB1⟩
    have HB1 := Lib.hid (HB0.out.trans (hB1.mono HB0.out.size))
    clear hB1 k0 k1 k2
    go_wp2_with fail
    go_returns
    exact ⟨rfl, HB1.out⟩
end Go.Proofs.Ytdckpjagmbdkgaa

/- Around of package tiles. -/
namespace Go.Proofs.Ytdckpjagmbdkgaa
set_option linter.unusedSimpArgs false
set_option linter.unusedVariables false
open Go.RowKit
open Hy (Lets Inv Gr Leads bot No wd tod dnb V InC aroundW alt)

/-- The round's state. -/
structure ArSt (o : Hy.Ord) (l : List UInt8) (f s gb rb n t N : Nat) (vg vo : Value) (G : List Hy.Node) (x z : Nat) (wr : World) : Prop where
  tg : TG wr o (fun k => N ≤ k ∧ vo.ownBlock ≠ some k) gb rb vg G
  gr : Gr o G (2 * l.length + 2 * n)
  cor : Cor o G l f s x z
  lead : Leads G z (V n f s) t
  tl : t < G.length
  out : GQ wr vo (((aroundW o l f s).take n).map str)

theorem leads_snoc {o : Hy.Ord} {G : List Hy.Node} {z t t' n f s : Nat} (hf : f < 3) (hs : s < 3) (h : Leads G z (V n f s) t) (ht : tod G t (if n % 2 = 0 then f else s) = some t') : Leads G z (V (n + 1) f s) t' := by
  rw [Hy.V_alt n 1 f s]
  refine Hy.leads_append.2 ⟨t, h, ?_⟩
  have ha : alt n f s < 3 := by unfold alt; split <;> assumption
  have e : alt n f s = if n % 2 = 0 then f else s := rfl
  rw [← e] at ht
  exact (Hy.leads_letter ha).2 ⟨t', ht, rfl⟩

theorem ArSt.mid {o : Hy.Ord} {l : List UInt8} {f s gb rb n t N : Nat} {vg vo v1 : Value} {G : List Hy.Node} {x z : Nat} {wr w1 : World} (h : ArSt o l f s gb rb n t N vg vo G x z wr) (ho : Only (fun k => vo.ownBlock = some k ∨ wr.heap.size ≤ k) wr w1) (hv : ∀ b, v1.ownBlock = some b → vo.ownBlock = some b ∨ wr.heap.size ≤ b) :
    TG w1 o (fun k => N ≤ k ∧ v1.ownBlock ≠ some k) gb rb vg G := by
  obtain ⟨_, _, _, _, _, _, h3, h4⟩ := h.tg.opened
  have key : ∀ k, k < wr.heap.size → vo.ownBlock ≠ some k → ¬ (vo.ownBlock = some k ∨ wr.heap.size ≤ k) := fun k h1 h2 h3 => by
    rcases h3 with h3 | h3
    · exact h2 h3
    · omega
  have key2 : ∀ k, k < wr.heap.size → vo.ownBlock ≠ some k → v1.ownBlock ≠ some k := fun k h1 h2 h3 => key k h1 h2 (hv k h3)
  exact (h.tg.only ho (key _ h3 h.tg.lo.1.2) (key _ h4 h.tg.lo.2.2)).sub ⟨h.tg.lo.1.1, key2 _ h3 h.tg.lo.1.2⟩ ⟨h.tg.lo.2.1, key2 _ h4 h.tg.lo.2.2⟩

set_option maxRecDepth 100000 in
set_option maxHeartbeats 4000000 in
theorem t04_Around_ok (o : Hy.Ord) (l : List UInt8) (m : Nat) (w : World) (he : Hy.allErr o.m01 o.m12 o.m02 [l] = 0) (hm2 : m ≤ 2) (hm : 0 < o.m (fstM m) (sndM m)) :
    Calls Try.prog 23 #[ordersV o.m01 o.m12 o.m02, str l, .int .i64 m] w fun e w' => ∃ v, e = .returned (.tuple #[v, .int .i64 0]) ∧ GQ w' v ((aroundW o l (fstM m) (sndM m)).map str) ∧ (∀ b, v.ownBlock = some b → w.heap.size ≤ b) ∧ Below w.heap.size w w' := by
  have q0 := alloc_heap_new w (.cells #[.int .i64 o.m01, .int .i64 o.m12, .int .i64 o.m02] 23)
  have hb0 : Below w.heap.size w (w.alloc (.cells #[.int .i64 o.m01, .int .i64 o.m12, .int .i64 o.m02] 23)) := (Below.refl _ _).alloc (Nat.le_refl _) _
  have HQ0 := Lib.hid q0
  have HB0 := Lib.hid hb0
  clear q0 hb0
  have h2 := allErr_ord he
  have F : Hy.Fine o := Hy.fine_of h2
  have h0 := Hy.ordErr_zero h2
  have HO : Small o := ⟨by omega, by omega, by omega⟩
  have hle := he
  rw [Hy.allErr_ok h2, Hy.wordsErr_one] at hle
  have HL := Lib.hid (lets_of_err hle)
  have HL60 := Lib.hid (Hy.wordErr_letters hle).2
  have HF := Lib.hid F
  have hco := fun W => t04_corner_ok o l m W he hm2 hm
  have HSTEP := Lib.hid (fun (B : Nat → Prop) (gb : Nat) => t04_step HO (B := B) (gb := gb) (lim := 1000000000) (Nat.le_refl _) 1000)
  unfold T04IH at HSTEP
  have fs := fst_snd m
  unfold CornPost at hco
  obtain ⟨f, hf⟩ : ∃ f, f = fstM m := ⟨_, rfl⟩
  obtain ⟨s, hs⟩ : ∃ s, s = sndM m := ⟨_, rfl⟩
  simp only [← hf, ← hs] at hm hco fs ⊢
  have HCO := Lib.hid hco
  have HFS := Lib.hid fs
  obtain ⟨M, hM⟩ : ∃ M, M = o.m f s := ⟨_, rfl⟩
  have hM12 : M ≤ 12 := by rw [hM]; exact order_small HO f s
  rw [← hM] at hm
  have HM := Lib.hid hM
  have HOR := Lib.hid (fun (W : World) (gb : Nat) (v : Value) hg => t04_order (w := W) (o := o) (gb := gb) (v := v) hg f s fs.1 fs.2.1 fs.2.2)
  rw [← hM] at HOR
  have HTU := Lib.hid (fun (n : Nat) (hn : n ≤ 100) W => t04_turn (f : Int) (s : Int) n hn W)
  have hf2 : f ≤ 2 := by omega
  have hs2 : s ≤ 2 := by omega
  have HMP := Lib.hid hm
  unfold str ordersV at *
  clear he h2 F h0 HO hle fs hM hm hco hf hs
  go_enter Try.func23, Try.ntmps23
  go_upto_region 1 with fail
  generalize w.alloc (.cells #[.int .i64 o.m01, .int .i64 o.m12, .int .i64 o.m02] 23) = W0 at *
  have k0 := cell_of_heap HQ0.out 0
  have k1 := cell_of_heap HQ0.out 1
  have k2 := cell_of_heap HQ0.out 2
  simp at k0 k1 k2
  go_wp2_with fail
  refine (HCO.out _).mono ?_
  rintro e w1 ⟨gb, rb, v, G, x, rfl, hT, hG, hlead, hx, hB1⟩
  have hC := Cor.mk' hG.inv HFS.out.1 HFS.out.2.1 HFS.out.2.2 (by have := HMP.out; have := HM.out; omega) hx hlead
  generalize bot G f s (wd G x).length x = z at hC ⊢
  have HB1 := Lib.hid (HB0.out.trans (hB1.mono HB0.out.size))
  have HS0 := Lib.hid (show ArSt o l f s gb rb 0 z w.heap.size v (.slice none 0 0) G x z w1 from
    ⟨hT.sub ⟨Nat.le_trans HB0.out.size hT.lo.1, by simp [Value.ownBlock]⟩ ⟨Nat.le_trans HB0.out.size hT.lo.2, by simp [Value.ownBlock]⟩, hG, hC, rfl, hC.zl, .inl ⟨rfl, rfl⟩⟩)
  clear hT hG hlead hx hB1 hC k0 k1 k2
  go_wp2_with fail
  refine (HOR.out _ _ _ HS0.out.tg.graph).mono ?_
  rintro e w2 ⟨rfl, hB2⟩
  have HS := Lib.hid (show ArSt o l f s gb rb 0 z w.heap.size v (.slice none 0 0) G x z w2 from ⟨HS0.out.tg.heap hB2, HS0.out.gr, HS0.out.cor, rfl, HS0.out.tl, .inl ⟨rfl, rfl⟩⟩)
  have HB2 := Lib.hid (HB1.out.trans (hB2.mono HB1.out.size))
  clear hB2 HS0 HB1
  go_wp2_with fail
  go_loopw [13, 9, 33] (fun vo tv nv wr => ∃ (n t rb : Nat) (vg : Value) (G : List Hy.Node), tv = .int .i64 t ∧ nv = .int .i64 n ∧ n ≤ 2 * M ∧ Hid (ArSt o l f s gb rb n t w.heap.size vg vo G x z wr) ∧ Hid (∀ b, vo.ownBlock = some b → w.heap.size ≤ b) ∧ Hid (Below w.heap.size w wr)) (fun _ _ nv _ => 2 * M - (intOf nv).toNat)
  case atStart => exact ⟨0, z, rb, v, G, rfl, rfl, Nat.zero_le _, HS, Lib.hid (by simp [Value.ownBlock]), HB2⟩
  case round =>
    clear HS HB2
    obtain ⟨n, t, rb, vg, G, rfl, rfl, hn, HS, HOW, HB⟩ := hrel
    by_cases hlt : n < 2 * M
    · have hlti : (n : Int) < 2 * (M : Int) := by omega
      have hat := HS.out.cor.at HF.out HS.out.gr.inv HFS.out.1 HFS.out.2.1 HFS.out.2.2 (by have := HMP.out; have := HM.out; omega) HL.out HL60.out (i := n) (by have := HM.out; omega) HS.out.lead
      have htl := HS.out.tl
      obtain ⟨nd, hnd⟩ : ∃ nd, G[t]? = some nd := ⟨G[t], List.getElem?_eq_getElem htl⟩
      obtain ⟨off, cap, rfl, hg, hnode, _⟩ := HS.out.tg.opened
      have N := (hnode t nd hnd).nword
      have hw : wd G t = nd.word := by unfold wd; rw [hnd]
      rw [hw] at hat
      have HAT := Lib.hid hat
      have HND := Lib.hid hnd
      have htli : (t : Int) < (G.length : Int) := by omega
      unfold str at N
      obtain ⟨a0, c0, hvo, _⟩ := HS.out.out.open
      obtain ⟨L, hL⟩ : ∃ L, L = (((aroundW o l f s).take n).map str).length := ⟨_, rfl⟩
      have hL30 : L ≤ 30 := by rw [hL]; simp; omega
      rw [← hL] at hvo
      subst hvo
      have HGQ := Lib.hid HS.out.out
      have HXL := Lib.hid (show (((aroundW o l f s).take n).map str).length ≤ 900000000 from by omega)
      clear hat hnd hnode hw hL
      go_wp2_with (at_builtin; refine wpList_gq1 wr rowStr rfl _ _ rfl (v := .slice a0 L c0) (xs := ((aroundW o l f s).take n).map str) rfl HGQ.out _ (.string ⟨nd.word.toArray⟩) rfl rfl HXL.out ?_)
      intro vo' w1 hq1 ho1 hv1
      have HMID := Lib.hid (HS.out.mid ho1 hv1)
      have HQ1 := Lib.hid (show GQ w1 vo' (((aroundW o l f s).take (n + 1)).map str) from by
        have e : (aroundW o l f s).take (n + 1) = (aroundW o l f s).take n ++ [nd.word] := by
          rw [List.take_add_one, HAT.out]; rfl
        rw [e, List.map_append]
        simpa [str] using hq1)
      have HB1 := Lib.hid (HB.out.trans (ho1.below (fun k hk => by
        rcases hk with hk | hk
        · exact HOW.out k hk
        · have := HB.out.size; omega)))
      have HOW1 := Lib.hid (show ∀ b, vo'.ownBlock = some b → w.heap.size ≤ b from fun b hb => by
        rcases hv1 b hb with hk | hk
        · exact HOW.out b hk
        · have := HB.out.size; omega)
      clear hq1 ho1 hv1
      go_wp2_with fail
      refine (HTU.out n (by omega) w1).mono ?_
      rintro e w2 ⟨rfl, rfl⟩
      obtain ⟨c, hc⟩ : ∃ c : Nat, c = if n % 2 = 0 then f else s := ⟨_, rfl⟩
      have hci : (if n % 2 = 0 then (f : Int) else (s : Int)) = (c : Int) := by rw [hc]; split <;> rfl
      have hc3 : c < 3 := by rw [hc]; split <;> omega
      rw [hci]
      have hlen : (wd G t).length < 1000 := by
        have h1 := (HS.out.gr.inv.lets t)
        have h2 := Hy.leads_eqv HS.out.gr.inv HS.out.lead
        have h3 := Hy.nf_of_leads HF.out HS.out.gr.inv (w := (l ++ [])) (i := x) (by simpa using HL.out) (by simpa using HS.out.cor.lead)
        have h4 := (Hy.word_leads HS.out.gr.inv _ t (Nat.le_refl _) htl)
        have h5 := (Hy.nf_of_leads HF.out HS.out.gr.inv h1 h4).len
        have h6 := HS.out.cor.short HF.out HS.out.gr.inv HL.out
        have h7 := HL60.out
        have h8 := InC.leads HS.out.gr.inv HFS.out.1 HFS.out.2.1 HFS.out.2.2 (by have := HMP.out; have := HM.out; omega) HS.out.cor.d1 HS.out.cor.d2 (.inl ⟨rfl, rfl⟩) ⟨0, by omega, .inl rfl⟩ HS.out.lead
        obtain ⟨p, hp, h9⟩ := h8
        have h10 : (wd G t).length = (wd G z).length + p := by rcases h9 with h9 | h9 <;> exact Hy.Dch_len HS.out.gr.inv h9
        have := HM.out
        omega
      obtain ⟨G', t', hst, hgr', hX, htod⟩ := HS.out.gr.step HF.out htl hc3 hlen
      have hGl := hgr'.len HF.out
      have HST := Lib.hid (HSTEP.out _ gb w1 _ _ _ t c G' t' HMID.out (fun k hk => ⟨by have := HB1.out.size; omega, fun h => by have := HQ1.out.lt k h; omega⟩) hc3 hst (by have := HL60.out; omega))
      have HX := Lib.hid (show Gr o G' (2 * l.length + 2 * (n + 1)) ∧ Cor o G' l f s x z ∧ Leads G' z (V (n + 1) f s) t' from ⟨hgr', HS.out.cor.ext HS.out.gr.inv hX, leads_snoc (o := o) HFS.out.1 HFS.out.2.1 (Hy.leads_ext hX HS.out.lead) (by rw [← hc]; exact htod)⟩)
      unfold T04Post at HST
      clear hst hgr' hX htod hGl hlen hc hci htl
      go_wp2_with fail
      refine HST.out.mono ?_
      rintro e w2 ⟨rb2, v2, rfl, hT2, hO2, _, ht2⟩
      have HS2 := Lib.hid (show ArSt o l f s gb rb2 (n + 1) t' w.heap.size v2 vo' G' x z w2 from ⟨hT2, HX.out.1, HX.out.2.1, HX.out.2.2, ht2, HQ1.out.only hO2 (fun b hb h => h.2 hb)⟩)
      have HB2 := Lib.hid (HB1.out.trans (hO2.below (fun k hk => hk.1)))
      clear hT2 hO2 ht2 HST HX HMID HQ1 HB1 HS HGQ HOW HB
      go_wp2_with fail
      go_roundw
      case rel => exact ⟨n + 1, t', rb2, v2, G', rfl, by go_num, by omega, HS2, HOW1, HB2⟩
      case measure => simp [intOf]; omega
    · obtain rfl : n = 2 * M := by omega
      have HFIN := Lib.hid (show GQ wr u13 ((aroundW o l f s).map str) from by
        have h := HS.out.out
        rw [List.take_of_length_le (by rw [Hy.length_aroundW, ← HM.out]; exact Nat.le_refl _)] at h
        exact h)
      clear hlt hn HS
      go_wp2_with fail
      go_returns
      exact ⟨_, rfl, HFIN.out, HOW.out, HB.out⟩

set_option maxRecDepth 100000 in
set_option maxHeartbeats 2000000 in
theorem t04_Around_err (a b c : Int) (l : List UInt8) (mi : Int) (w : World) (hl : l.length ≤ 9223372036854775807) (he : cornErr a b c l mi ≠ 0) :
    Calls Try.prog 23 #[ordersV a b c, str l, .int .i64 mi] w fun e w' => e = .returned (.tuple #[.slice none 0 0, .int .i64 (cornErr a b c l mi)]) ∧ Below w.heap.size w w' := by
  have q0 := alloc_heap_new w (.cells #[.int .i64 a, .int .i64 b, .int .i64 c] 23)
  have hb0 : Below w.heap.size w (w.alloc (.cells #[.int .i64 a, .int .i64 b, .int .i64 c] 23)) := (Below.refl _ _).alloc (Nat.le_refl _) _
  have HQ0 := Lib.hid q0
  have HB0 := Lib.hid hb0
  clear q0 hb0
  have HCO := Lib.hid (fun W => t04_corner_err a b c l mi W hl he)
  have hne : (cornErr a b c l mi != 0) = true := by rw [bne_iff_ne]; exact he
  generalize cornErr a b c l mi = er at *
  clear he
  unfold str ordersV at *
  go_enter Try.func23, Try.ntmps23
  go_upto_region 1 with fail
  generalize w.alloc (.cells #[.int .i64 a, .int .i64 b, .int .i64 c] 23) = W0 at *
  have k0 := cell_of_heap HQ0.out 0
  have k1 := cell_of_heap HQ0.out 1
  have k2 := cell_of_heap HQ0.out 2
  simp at k0 k1 k2
  go_wp2_with fail
  refine (HCO.out _).mono ?_
  rintro e w1 ⟨rfl, hB1⟩
  have HB1 := Lib.hid (HB0.out.trans (hB1.mono HB0.out.size))
  clear hB1 k0 k1 k2
  go_wp2_with fail
  go_returns
  exact ⟨rfl, HB1.out⟩
end Go.Proofs.Ytdckpjagmbdkgaa
