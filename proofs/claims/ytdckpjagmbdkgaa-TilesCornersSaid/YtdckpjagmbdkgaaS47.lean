/- The specification of layer 4: the tiles around a corner from the first one on. -/
import Derived.Test.YtdckpjagmbdkgaaS45
namespace Go.Proofs.Ytdckpjagmbdkgaa
set_option linter.unusedSimpArgs false
set_option linter.unusedVariables false
open Go.RowKit
open Hy (Lets IsNF nfw circW aroundW shortest V)

theorem circ_mem {o : Hy.Ord} (F : Hy.Fine o) {u : List UInt8} (hu : Lets u) (hul : u.length ≤ 400) {f s n : Nat} (hf : f < 3) (hs : s < 3) (hn : n ≤ 100) {x : List UInt8} (hx : x ∈ circW o u f s n) : Lets x ∧ x.length ≤ u.length + n := by
  unfold circW at hx
  obtain ⟨i, hi, rfl⟩ := List.mem_map.1 hx
  have hi2 := List.mem_range.1 hi
  have hL : Lets (u ++ V i f s) := Hy.Lets.app.2 ⟨hu, Hy.V_lets hf hs⟩
  have h := Hy.nfw_is F hL (by rw [List.length_append, Hy.V_length]; omega)
  have hl := h.len
  rw [List.length_append, Hy.V_length] at hl
  exact ⟨(Hy.same_tile F h.eqv).1.2 hL, by omega⟩

/-- The first of the shortest, after some words. -/
def bestOf (l : List (List UInt8)) (n : Nat) : List UInt8 := (l.take n).foldl (fun b x => if x.length < b.length then x else b) (l.headD [])
theorem bestOf_zero (l : List (List UInt8)) : bestOf l 0 = l.headD [] := rfl
theorem bestOf_succ {l : List (List UInt8)} {n : Nat} {x : List UInt8} (h : l[n]? = some x) : bestOf l (n + 1) = if x.length < (bestOf l n).length then x else bestOf l n := by
  unfold bestOf
  rw [List.take_add_one, h, List.foldl_append]
  rfl
theorem bestOf_all (l : List (List UInt8)) : bestOf l l.length = shortest l := by unfold bestOf shortest; rw [List.take_length]
theorem bestOf_mem {l : List (List UInt8)} (h0 : 0 < l.length) : ∀ n, n ≤ l.length → bestOf l n ∈ l
  | 0, _ => by cases l with
    | nil => simp at h0
    | cons a l => simp [bestOf]
  | n + 1, hn => by
    have hx : l[n]? = some l[n] := List.getElem?_eq_getElem (by omega)
    rw [bestOf_succ hx]
    split
    · exact List.getElem_mem _
    · exact bestOf_mem h0 n (by omega)

set_option maxRecDepth 100000 in
set_option maxHeartbeats 4000000 in
theorem r04_Around {o : Hy.Ord} (F : Hy.Fine o) (hS : Small o) (u : List UInt8) (hu : Lets u) (hul : u.length ≤ 60) (m : Nat) (hm : m ≤ 2) (hM : 0 < o.m (fstM m) (sndM m)) (w : World) :
    Calls Try.prog 24 #[ordersV o.m01 o.m12 o.m02, str u, .int .i64 m] w fun e w' => ∃ v, e = .returned v ∧ GQ w' v ((aroundW o u (fstM m) (sndM m)).map str) ∧ (∀ b, v.ownBlock = some b → w.heap.size ≤ b) ∧ Below w.heap.size w w' := by
  have fs := fst_snd m
  have h12 := order_small hS (fstM m) (sndM m)
  have HC1 := Lib.hid (fun W => r04_circle F hS u hu (by omega) m hm W)
  obtain ⟨CW, hCW⟩ : ∃ CW, CW = circW o u (fstM m) (sndM m) (2 * o.m (fstM m) (sndM m)) := ⟨_, rfl⟩
  have hCL : CW.length = 2 * o.m (fstM m) (sndM m) := by rw [hCW]; exact Hy.length_circW
  have hmem : ∀ x ∈ CW, Lets x ∧ x.length ≤ 100 := fun x hx => by
    rw [hCW] at hx
    have h := circ_mem F hu (by omega) fs.1 fs.2.1 (by omega) hx
    exact ⟨h.1, by omega⟩
  have hsm : Lets (shortest CW) ∧ (shortest CW).length ≤ 100 := by
    rw [← bestOf_all]; exact hmem _ (bestOf_mem (by omega) _ (Nat.le_refl _))
  have HC2 := Lib.hid (fun W => r04_circle F hS (shortest CW) hsm.1 (by omega) m hm W)
  have hA : aroundW o u (fstM m) (sndM m) = circW o (shortest CW) (fstM m) (sndM m) (2 * o.m (fstM m) (sndM m)) := by rw [hCW]; rfl
  rw [← hCW] at HC1
  rw [hA]
  have HL := Lib.hid (show 0 < CW.length ∧ CW.length ≤ 24 from by omega)
  have HMEM := Lib.hid hmem
  have q0 := World.alloc_heap_new w (.cells #[.int .i64 o.m01, .int .i64 o.m12, .int .i64 o.m02] 23)
  have HQ0 := Lib.hid q0
  have HB0 := Lib.hid ((Below.refl w.heap.size w).alloc (Nat.le_refl _) (.cells #[.int .i64 o.m01, .int .i64 o.m12, .int .i64 o.m02] 23))
  generalize circW o (shortest CW) (fstM m) (sndM m) (2 * o.m (fstM m) (sndM m)) = AW at *
  clear q0 fs h12 hCW hCL hmem hsm hA hM hu hul hm
  unfold ordersV str at *
  go_enter Try.func24, Try.ntmps24
  go_upto_region 1 with fail
  generalize w.alloc (.cells #[.int .i64 o.m01, .int .i64 o.m12, .int .i64 o.m02] 23) = W0 at *
  have lk0 : w.heap.size < W0.heap.size := (Array.getElem?_eq_some_iff.1 HQ0.out).1
  have k0 := cell_of_heap HQ0.out 0
  have k1 := cell_of_heap HQ0.out 1
  have k2 := cell_of_heap HQ0.out 2
  simp at k0 k1 k2
  have HK := Lib.hid (And.intro k0 (And.intro k1 k2))
  go_wp2_with fail
  refine (HC1.out _).mono ?_
  rintro e w1 ⟨v, rfl, hq, ho, hB⟩
  obtain ⟨a0, c0, hv, hcells⟩ := hq.open
  obtain ⟨L, hLL⟩ : ∃ L, L = (CW.map str).length := ⟨_, rfl⟩
  have hLC : L = CW.length := by rw [hLL]; simp
  have hv2 : v = .slice a0 L c0 := by rw [hv, hLL]; rfl
  clear hv
  subst hv2
  obtain ⟨x0, hx0⟩ : ∃ x0, CW[0]? = some x0 := ⟨CW[0]'(HL.out.1), List.getElem?_eq_getElem HL.out.1⟩
  obtain ⟨g, off, ha, hcell0⟩ := hcells 0 (str x0) (by
    have : (CW.map str)[0]? = some (str x0) := by rw [List.getElem?_map, hx0]; rfl
    exact this)
  subst ha
  have HCELLS := Lib.hid (fun (k : Nat) (x : List UInt8) (hk : CW[k]? = some x) => show w1.cell? ⟨g, off + k, none⟩ = some (str x) from by
    obtain ⟨g', off', e, h⟩ := hcells k (str x) (by
      have : (CW.map str)[k]? = some (str x) := by rw [List.getElem?_map, hk]; rfl
      exact this)
    simp only [Option.some.injEq, Addr.mk.injEq, and_true] at e
    obtain ⟨rfl, rfl⟩ := e
    exact h)
  have HB1 := Lib.hid hB
  have HLC := Lib.hid hLC
  have hb0 : bestOf CW 0 = x0 := by
    rw [bestOf_zero]
    cases CW with
    | nil => simp at hx0
    | cons a l => simpa using hx0
  have HBE := Lib.hid hb0
  have hLi : (0 : Int) < (L : Int) := by have := HL.out; omega
  have c0 := hcell0
  unfold str at c0
  rw [Nat.add_zero] at c0
  clear hq ho hB hcells hLL hLC hcell0 hb0 k0 k1 k2 hx0
  go_wp2_with fail
  go_loopw [8, 9] (fun bv iv wr => wr = w1 ∧ ∃ (k : Nat), bv = .string ⟨(bestOf CW k).toArray⟩ ∧ iv = .int .i64 k ∧ k ≤ CW.length) (fun _ iv _ => CW.length - (intOf iv).toNat)
  case atStart => exact ⟨rfl, 0, by rw [HBE.out], rfl, Nat.zero_le _⟩
  case round =>
    obtain ⟨rfl, k, rfl, rfl, hk⟩ := hrel
    have hl24 := HL.out
    by_cases hlt : k < CW.length
    · have hki : (k : Int) < (L : Int) := by have := HLC.out; omega
      obtain ⟨x, hx⟩ : ∃ x, CW[k]? = some x := ⟨CW[k], List.getElem?_eq_getElem hlt⟩
      have ck := HCELLS.out k x hx
      unfold str at ck
      have hsu := bestOf_succ hx
      have hm2 := HMEM.out x (List.mem_of_getElem? hx)
      by_cases hb : x.length < (bestOf CW k).length
      · have hbi : (x.length : Int) < ((bestOf CW k).length : Int) := by omega
        rw [if_pos hb] at hsu
        have HSU := Lib.hid hsu
        clear hsu hb hx hm2
        go_wp2_with fail
        go_roundw
        case rel => exact ⟨by first | rfl | trivial, k + 1, by rw [HSU.out], by go_num, hlt⟩
        case measure => simp [intOf]; omega
      · have hbi : ¬ (x.length : Int) < ((bestOf CW k).length : Int) := by omega
        rw [if_neg hb] at hsu
        have HSU := Lib.hid hsu
        clear hsu hb hx hm2
        go_wp2_with fail
        go_roundw
        case rel => exact ⟨by first | rfl | trivial, k + 1, by rw [HSU.out], by go_num, hlt⟩
        case measure => simp [intOf]; omega
    · obtain rfl : k = CW.length := by omega
      have hki : ¬ ((CW.length : Nat) : Int) < (L : Int) := by have := HLC.out; omega
      rw [bestOf_all]
      have c0 := (HB1.out.cell (p := ⟨w.heap.size, 0, none⟩) lk0).trans HK.out.1
      have c1 := (HB1.out.cell (p := ⟨w.heap.size, 1, none⟩) lk0).trans HK.out.2.1
      have c2 := (HB1.out.cell (p := ⟨w.heap.size, 2, none⟩) lk0).trans HK.out.2.2
      clear hlt hk
      go_wp2_with fail
      refine (HC2.out _).mono ?_
      rintro e w3 ⟨v3, rfl, hq3, ho3, hB3⟩
      have HB3 := Lib.hid (HB1.out.trans (hB3.mono HB1.out.size))
      have HQ3 := Lib.hid hq3
      have HO3 := Lib.hid ho3
      clear hq3 ho3 hB3 c0 c1 c2
      go_wp2_with fail
      go_returns
      exact ⟨_, rfl, HQ3.out, fun b hb => by have := HO3.out b hb; have := HB1.out.size; have := HB0.out.size; omega, HB0.out.trans (HB3.out.mono HB0.out.size)⟩
end Go.Proofs.Ytdckpjagmbdkgaa
