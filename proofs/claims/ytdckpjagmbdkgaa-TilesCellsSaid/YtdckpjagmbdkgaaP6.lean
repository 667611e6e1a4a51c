/- The fraction of the series, as package tiles makes it. -/
import Derived.Test.YtdckpjagmbdkgaaP1
import Derived.Test.YtdckpjagmbdkgaaCount
namespace Go.Proofs.Ytdckpjagmbdkgaa
set_option linter.unusedSimpArgs false
set_option linter.unusedVariables false
open Go.RowKit
open HySer (ones pover circs prodAll fracD fracN frac pplus ptimes ptrim red redGo lenAll lenAll_pos cf_prod length_pplus)

def ints (ms : List Nat) : List Int := ms.map fun (m : Nat) => (m : Int)

theorem lenAll_le : ∀ {ms : List Nat}, (∀ m ∈ ms, m ≤ 12) → lenAll ms ≤ 1 + 12 * ms.length
  | [], _ => by simp [lenAll]
  | m :: ms, h => by
    have h1 := h m List.mem_cons_self
    have h2 := lenAll_le (ms := ms) (fun x hx => h x (List.mem_cons_of_mem _ hx))
    rw [lenAll, List.length_cons]
    omega

/-- Orders that are not 0. -/
structure Good (ms : List Nat) : Prop where
  two : ∀ m ∈ ms, 2 ≤ m
  le : ∀ m ∈ ms, m ≤ 12
  len : ms.length ≤ 3

theorem Good.take {ms : List Nat} (h : Good ms) (k : Nat) : Good (ms.take k) :=
  ⟨fun m hm => h.two m (List.mem_of_mem_take hm), fun m hm => h.le m (List.mem_of_mem_take hm), by have := h.len; simp; omega⟩
theorem Good.prod {ms : List Nat} (h : Good ms) : 0 < (prodAll ms).length ∧ (prodAll ms).length ≤ 40 := by
  have h1 := lenAll_pos h.two
  have h2 := lenAll_le h.le
  have h3 := (cf_prod h.two).2
  have h4 := h.len
  omega
theorem Good.fracD {ms : List Nat} (h : Good ms) : (HySer.fracD ms).length = (prodAll ms).length + 1 := HySer.fracD_len h.two

/-- The sum over the first orders. -/
def fracGo (ms : List Nat) (k : Nat) : List Int := (ms.take k).foldl (fun n m => pplus n ((pover (prodAll ms) (ones m)).getD []) 1) (pplus (HySer.fracD ms) (prodAll ms) (-3))
theorem fracGo_all (ms : List Nat) : fracGo ms ms.length = fracN ms := by unfold fracGo fracN; rw [List.take_length]
theorem fracGo_succ {ms : List Nat} (h : ∀ m ∈ ms, 2 ≤ m) {k : Nat} (hk : k < ms.length) : fracGo ms (k + 1) = pplus (fracGo ms k) (HySer.restAll ms k) 1 := by
  unfold fracGo
  rw [List.take_succ_eq_append_getElem hk, List.foldl_append]
  simp only [List.foldl_cons, List.foldl_nil]
  rw [HySer.part_rest h hk, Option.getD_some]
theorem rest_len {ms : List Nat} (h : ∀ m ∈ ms, 2 ≤ m) {k : Nat} (hk : k < ms.length) : (HySer.restAll ms k).length ≤ (prodAll ms).length ∧ 0 < (HySer.restAll ms k).length := by
  have h' : ∀ m ∈ ms.eraseIdx k, 2 ≤ m := fun x hx => h x ((List.eraseIdx_sublist ms k).subset hx)
  obtain ⟨_, e2⟩ := cf_prod h
  obtain ⟨_, e4⟩ := cf_prod h'
  have e6 := (HySer.ser_erase hk).2 h
  have := h _ (List.getElem_mem hk)
  have := lenAll_pos h'
  unfold HySer.restAll
  omega
theorem fracGo_len {ms : List Nat} (h : Good ms) : ∀ k, k ≤ ms.length → (fracGo ms k).length = (prodAll ms).length + 1
  | 0, _ => by
    unfold fracGo
    rw [List.take_zero, List.foldl_nil, length_pplus, h.fracD]
    omega
  | k + 1, hk => by
    have h1 := fracGo_len h k (by omega)
    have h2 := rest_len h.two (show k < ms.length by omega)
    rw [fracGo_succ h.two (by omega), length_pplus, h1]
    omega

/-- The orders that are not 0, of the first k. -/
def someOrd (o : Hy.Ord) (k : Nat) : List Nat := ([o.m01, o.m12, o.m02].take k).filter (0 < ·)
theorem someOrd_all (o : Hy.Ord) : someOrd o 3 = Hy.orders o := rfl
theorem someOrd_succ (o : Hy.Ord) {k : Nat} (hk : k < 3) : someOrd o (k + 1) = if 0 < [o.m01, o.m12, o.m02].getD k 0 then someOrd o k ++ [[o.m01, o.m12, o.m02].getD k 0] else someOrd o k := by
  unfold someOrd
  have hk' : k < [o.m01, o.m12, o.m02].length := by simpa using hk
  rw [List.take_succ_eq_append_getElem hk', List.filter_append]
  have e : [o.m01, o.m12, o.m02].getD k 0 = [o.m01, o.m12, o.m02][k] := by simp [List.getD, List.getElem?_eq_getElem hk']
  rw [e]
  by_cases h : 0 < [o.m01, o.m12, o.m02][k]
  · rw [if_pos h]; simp [List.filter_cons, h]
  · rw [if_neg h]; simp [List.filter_cons, h]

theorem ord_fine {o : Hy.Ord} (h : Hy.ordErr o.m01 o.m12 o.m02 = 0) {k : Nat} (hk : k < 3) : [o.m01, o.m12, o.m02].getD k 0 ≠ 1 ∧ [o.m01, o.m12, o.m02].getD k 0 ≤ 12 := by
  obtain ⟨h1, h2, h3⟩ := Hy.ordErr_zero h
  match k, hk with
  | 0, _ => simp; omega
  | 1, _ => simp; omega
  | 2, _ => simp; omega
theorem good_some {o : Hy.Ord} (h : Hy.ordErr o.m01 o.m12 o.m02 = 0) : ∀ k, k ≤ 3 → Good (someOrd o k) ∧ (someOrd o k).length ≤ k
  | 0, _ => ⟨⟨fun m hm => by simp [someOrd] at hm, fun m hm => by simp [someOrd] at hm, by simp [someOrd]⟩, by simp [someOrd]⟩
  | k + 1, hk => by
    obtain ⟨g, gl⟩ := good_some h k (by omega)
    obtain ⟨f1, f2⟩ := ord_fine h (show k < 3 by omega)
    rw [someOrd_succ o (by omega)]
    split
    · rename_i hp
      refine ⟨⟨fun m hm => ?_, fun m hm => ?_, by simp; omega⟩, by simp; omega⟩
      · rcases List.mem_append.1 hm with hm | hm
        · exact g.two m hm
        · simp only [List.mem_singleton] at hm; omega
      · rcases List.mem_append.1 hm with hm | hm
        · exact g.le m hm
        · simp only [List.mem_singleton] at hm; omega
    · exact ⟨g, by omega⟩

theorem circ_len : ∀ c ∈ circs 11, 2 ≤ c.length ∧ c.length ≤ 20 := by
  have : (circs 11).all (fun c => decide (2 ≤ c.length) && decide (c.length ≤ 20)) = true := by decide +kernel
  intro c hc
  have h := List.all_eq_true.1 this c hc
  simpa using h

/-- The state while the orders are gathered. -/
structure FrSt (w wr : World) (va vo : Value) (ms : List Nat) : Prop where
  all : PR .i64 wr va (prodAll ms)
  ord : GQ wr vo (nums .i64 (ints ms))
  apart : ∀ b, va.ownBlock = some b → vo.ownBlock ≠ some b
  below : Below w.heap.size w wr
  ge : ∀ b, vo.ownBlock = some b → w.heap.size ≤ b

theorem PR.blt {k : IntKind} {w : World} {v : Value} {l : List Int} (h : PR k w v l) : ∀ b, v.ownBlock = some b → b < w.heap.size := by
  obtain ⟨g, off, cap, rfl, _, hg, _⟩ := h
  intro b hb
  simp [Value.ownBlock] at hb
  omega
theorem IQ.bge {k : IntKind} {w : World} {g N : Nat} {v : Value} {l : List Int} (h : IQ k w g v l) (hg : N ≤ g) : ∀ b, v.ownBlock = some b → N ≤ b := by
  obtain ⟨off, cap, rfl, _⟩ := h.open
  intro b hb
  simp [Value.ownBlock] at hb
  omega

theorem FrSt.mid {w wr w1 : World} {va vo : Value} {ms : List Nat} (h : FrSt w wr va vo ms) (ho : Only (fun k => vo.ownBlock = some k ∨ wr.heap.size ≤ k) wr w1) : PR .i64 w1 va (prodAll ms) :=
  h.all.only ho (fun b hb hk => by
    rcases hk with hk | hk
    · exact h.apart b hb hk
    · have := h.all.blt b hb; omega)
theorem FrSt.next {w wr w1 w3 : World} {va vo vo' v3 : Value} {ms : List Nat} {m g3 : Nat} (h : FrSt w wr va vo ms) (hq : GQ w1 vo' (nums .i64 (ints ms) ++ [.int .i64 m])) (ho : Only (fun k => vo.ownBlock = some k ∨ wr.heap.size ≤ k) wr w1)
    (hv : ∀ b, vo'.ownBlock = some b → vo.ownBlock = some b ∨ wr.heap.size ≤ b) (hB : Below w1.heap.size w1 w3) (h3 : IQ .i64 w3 g3 v3 (ptimes (prodAll ms) (ones m))) (hg : w1.heap.size ≤ g3) : FrSt w w3 v3 vo' (ms ++ [m]) := by
  have hs := h.below.size
  have hs1 := ho.size
  have e : nums .i64 (ints (ms ++ [m])) = nums .i64 (ints ms) ++ [.int .i64 m] := by simp [nums, ints]
  refine ⟨by rw [HySer.prod_snoc]; exact h3.pr, by rw [e]; exact hq.later hB, fun b hb hb' => ?_, (h.below.trans (ho.below fun k hk => ?_)).trans (hB.mono (by omega)), fun b hb => ?_⟩
  · have := h3.bge hg b hb
    have := hq.lt b hb'
    omega
  · rcases hk with hk | hk
    · exact h.ge k hk
    · omega
  · rcases hv b hb with hk | hk
    · exact h.ge b hk
    · omega

/-- The world when the orders are gone through. -/
def frW (o : Hy.Ord) (w : World) : World := ((w.alloc (.cells #[.int .i64 o.m01, .int .i64 o.m12, .int .i64 o.m02] 23)).alloc (.cells #[.int .i64 1] 3)).alloc (.cells #[.int .i64 o.m01, .int .i64 o.m12, .int .i64 o.m02] 3)
theorem frW_size (o : Hy.Ord) (w : World) : (frW o w).heap.size = w.heap.size + 3 := by simp [frW]
theorem frW_cell (o : Hy.Ord) (w : World) {k : Nat} (hk : k < 3) : (frW o w).cell? ⟨w.heap.size + 1 + 1, k, none⟩ = some (.int .i64 (([o.m01, o.m12, o.m02].getD k 0 : Nat) : Int)) := by
  have hb : (frW o w).heap[w.heap.size + 1 + 1]? = some (.cells #[.int .i64 o.m01, .int .i64 o.m12, .int .i64 o.m02] 3) := by
    have := alloc_heap_new ((w.alloc (.cells #[.int .i64 o.m01, .int .i64 o.m12, .int .i64 o.m02] 23)).alloc (.cells #[.int .i64 1] 3)) (.cells #[.int .i64 o.m01, .int .i64 o.m12, .int .i64 o.m02] 3)
    simpa [frW] using this
  rw [cell_of_heap hb k]
  match k, hk with
  | 0, _ => rfl
  | 1, _ => rfl
  | 2, _ => rfl
theorem frW_below (o : Hy.Ord) (w : World) : Below w.heap.size w (frW o w) := (((Below.refl _ _).alloc (Nat.le_refl _) _).alloc (by simp) _).alloc (by simp; omega) _
theorem frW_start (o : Hy.Ord) (w : World) : FrSt (frW o w) (frW o w) (.slice (some ⟨w.heap.size + 1, 0, none⟩) 1 1) (.slice none 0 0) (someOrd o 0) := by
  refine ⟨?_, .inl ⟨rfl, rfl⟩, fun b _ hb => by simp [Value.ownBlock] at hb, Below.refl _ _, fun b hb => by simp [Value.ownBlock] at hb⟩
  refine (IQ.of_block (k := .i64) (g := w.heap.size + 1) (l := [1]) (t := 3) ?_ 1 rfl (by decide)).pr
  have h1 := alloc_heap_new (w.alloc (.cells #[.int .i64 o.m01, .int .i64 o.m12, .int .i64 o.m02] 23)) (.cells #[.int .i64 1] 3)
  have h2 := ((Below.refl _ ((w.alloc (.cells #[.int .i64 o.m01, .int .i64 o.m12, .int .i64 o.m02] 23)).alloc (.cells #[.int .i64 1] 3))).alloc (Nat.le_refl _) (.cells #[.int .i64 o.m01, .int .i64 o.m12, .int .i64 o.m02] 3)).block (w.heap.size + 1) (by simp)
  exact h2.trans (by simpa [nums] using h1)

def lenOf : Value → Nat | .slice _ n _ => n | _ => 0

theorem redGo_len {c : List Int} (hc : 2 ≤ c.length) : ∀ (f : Nat) (n d : List Int), (redGo c f n d).1.length ≤ n.length ∧ (redGo c f n d).2.length ≤ d.length ∧ (0 < n.length → 0 < (redGo c f n d).1.length) ∧ (0 < d.length → 0 < (redGo c f n d).2.length)
  | 0, n, d => ⟨Nat.le_refl _, Nat.le_refl _, id, id⟩
  | f + 1, n, d => by
    rw [redGo]
    have hcn : c ≠ [] := by rintro rfl; simp at hc
    cases ha : pover n c with
    | none => exact ⟨Nat.le_refl _, Nat.le_refl _, id, id⟩
    | some a =>
      cases hb : pover d c with
      | none => exact ⟨Nat.le_refl _, Nat.le_refl _, id, id⟩
      | some b =>
        obtain ⟨_, h1, h2⟩ := HySer.over_mul hcn ha
        obtain ⟨_, h3, h4⟩ := HySer.over_mul hcn hb
        obtain ⟨k1, k2, k3, k4⟩ := redGo_len hc f a b
        exact ⟨by simp only; omega, by simp only; omega, fun _ => k3 (by omega), fun _ => k4 (by omega)⟩

/-- Behind the first k circles. -/
def redTo (s : List Int × List Int) (k : Nat) : List Int × List Int := ((circs 11).take k).foldl red s
theorem redTo_succ (s : List Int × List Int) {k : Nat} (hk : k < 11) : redTo s (k + 1) = red (redTo s k) ((circs 11).getD k []) := by
  unfold redTo
  have hk' : k < (circs 11).length := by rw [length_circs]; exact hk
  rw [List.take_succ_eq_append_getElem hk', List.foldl_append]
  simp [List.getD, List.getElem?_eq_getElem hk']
theorem circ_at {k : Nat} (hk : k < 11) : 2 ≤ ((circs 11).getD k []).length ∧ ((circs 11).getD k []).length ≤ 20 := by
  have hk' : k < (circs 11).length := by rw [length_circs]; exact hk
  have e : (circs 11).getD k [] = (circs 11)[k] := by simp [List.getD, List.getElem?_eq_getElem hk']
  rw [e]
  exact circ_len _ (List.getElem_mem hk')
theorem redTo_len {s : List Int × List Int} (h1 : 0 < s.1.length) (h2 : 0 < s.2.length) : ∀ k, k ≤ 11 → (redTo s k).1.length ≤ s.1.length ∧ (redTo s k).2.length ≤ s.2.length ∧ 0 < (redTo s k).1.length ∧ 0 < (redTo s k).2.length
  | 0, _ => ⟨Nat.le_refl _, Nat.le_refl _, h1, h2⟩
  | k + 1, hk => by
    obtain ⟨a1, a2, a3, a4⟩ := redTo_len h1 h2 k (by omega)
    rw [redTo_succ s (by omega)]
    unfold red
    obtain ⟨b1, b2, b3, b4⟩ := redGo_len (circ_at (k := k) (by omega)).1 (redTo s k).1.length (redTo s k).1 (redTo s k).2
    exact ⟨by omega, by omega, b3 a3, b4 a4⟩

theorem redGo_next {c N2 D2 : List Int} {f : Nat} (hf : N2.length ≤ f) (h1 : 0 < N2.length) (h2 : 0 < D2.length) (h3 : N2.length ≤ 100000) (h4 : D2.length ≤ 100000) (hc : 2 ≤ c.length) :
    (pover N2 c = none ∨ pover D2 c = none → redGo c f N2 D2 = (N2, D2)) ∧ ∀ a b, pover N2 c = some a → pover D2 c = some b →
      ∃ f', redGo c f N2 D2 = redGo c f' a b ∧ a.length ≤ f' ∧ (0 < a.length ∧ 0 < b.length ∧ a.length ≤ 100000 ∧ b.length ≤ 100000) ∧ a.length < N2.length := by
  have hcn : c ≠ [] := by rintro rfl; simp at hc
  match f, hf with
  | 0, hf => omega
  | f + 1, hf =>
    refine ⟨fun h => ?_, fun a b ha hb => ?_⟩
    · rw [redGo]
      rcases h with h | h
      · rw [h]
      · rw [h]
        cases pover N2 c <;> rfl
    · obtain ⟨_, k1, k2⟩ := HySer.over_mul hcn ha
      obtain ⟨_, k3, k4⟩ := HySer.over_mul hcn hb
      refine ⟨f, ?_, by omega, by omega, by omega⟩
      rw [redGo, ha, hb]

def FracPost (o : Hy.Ord) (w : World) (e : Ending) (w' : World) : Prop :=
  ∃ vn vd, e = .returned (.tuple #[vn, vd]) ∧ PR .i64 w' vn (frac (Hy.orders o)).1 ∧ PR .i64 w' vd (frac (Hy.orders o)).2 ∧ Below w.heap.size w w'

set_option maxRecDepth 100000 in
set_option maxHeartbeats 8000000 in
theorem t04_fraction (o : Hy.Ord) (he : Hy.ordErr o.m01 o.m12 o.m02 = 0) (w : World) : Calls Try.prog 34 #[ordersV o.m01 o.m12 o.m02] w (FracPost o w) := by
  have HGOOD := Lib.hid (fun k hk => (good_some he k hk))
  have HORD := Lib.hid (fun (k : Nat) (hk : k < 3) => ord_fine he hk)
  have HONE := Lib.hid (fun (k : Nat) (hk : k ≤ 1000) W => t04_ones k hk W)
  unfold ordersV
  clear he
  go_enter Try.func34, Try.ntmps34
  go_upto_region 4 with fail
  have HW0 := Lib.hid (frW_below o w)
  have HS0 := Lib.hid (frW_start o w)
  have HZ := Lib.hid (frW_size o w)
  have HC := Lib.hid (fun (k : Nat) (hk : k < 3) => frW_cell o w hk)
  change Code.wp _ _ _ _ (frW o w)
  obtain ⟨w0, hw0⟩ : ∃ w0, w0 = frW o w := ⟨_, rfl⟩
  rw [← hw0] at HW0 HS0 HZ HC ⊢
  clear hw0
  go_loopw [4, 5, 29] (fun va vo kv wr => ∃ k : Nat, kv = .int .i64 k ∧ k ≤ 3 ∧ Hid (FrSt w0 wr va vo (someOrd o k))) (fun _ _ kv _ => 3 - (intOf kv).toNat)
  case atStart => exact ⟨0, rfl, Nat.zero_le _, HS0⟩
  case round =>
    obtain ⟨k, rfl, hk, HS⟩ := hrel
    by_cases hlt : k < 3
    · have c1 := (HS.out.below.cell (p := ⟨w.heap.size + 1 + 1, k, none⟩) (by have := HZ.out; simp only; omega)).trans (HC.out k hlt)
      have hsucc := someOrd_succ o hlt
      obtain ⟨f1, f2⟩ := HORD.out k hlt
      obtain ⟨m, hm⟩ : ∃ m, m = [o.m01, o.m12, o.m02].getD k 0 := ⟨_, rfl⟩
      rw [← hm] at c1 hsucc f1 f2
      have hlti : (k : Int) < 3 := by omega
      clear hm
      by_cases hp : 0 < m
      · rw [if_pos hp] at hsucc
        have HSU := Lib.hid hsucc
        have hpi : (0 : Int) < (m : Int) := by omega
        obtain ⟨gd, gdl⟩ := HGOOD.out k (by omega)
        have HGD := Lib.hid gd
        obtain ⟨L, hL⟩ : ∃ L, L = (nums .i64 (ints (someOrd o k))).length := ⟨_, rfl⟩
        have hL3 : L ≤ 3 := by rw [hL]; simp [nums, ints]; omega
        obtain ⟨a0, c0, hv0, _⟩ := HS.out.ord.open
        rw [← hL] at hv0
        subst hv0
        have HGQ := Lib.hid HS.out.ord
        obtain ⟨gp, op, cp, hpv, _⟩ := HS.out.all
        subst hpv
        have HXL := Lib.hid (show (nums .i64 (ints (someOrd o k))).length ≤ 900000000 from by omega)
        have HF2 := Lib.hid (show 0 < m ∧ m ≤ 12 from ⟨hp, f2⟩)
        have HO1 := Lib.hid (HONE.out m (by omega))
        unfold NewI at HO1
        clear hsucc f1 f2 hp gd gdl hL
        go_wp2_with (at_builtin; refine wpList_gq1 wr rowInt rfl _ _ rfl (v := .slice a0 L c0) (xs := nums .i64 (ints (someOrd o k))) rfl HGQ.out _ (.int .i64 m) rfl rfl HXL.out ?_)
        intro vo' w1 hq1 ho1 hv1
        have HMID := Lib.hid (HS.out.mid ho1)
        have HN1 := Lib.hid (fun w3 v3 g3 (hB : Below w1.heap.size w1 w3) (h3 : IQ .i64 w3 g3 v3 (ptimes (prodAll (someOrd o k)) (ones m))) hg => HS.out.next hq1 ho1 hv1 hB h3 hg)
        clear hq1 ho1 hv1
        go_wp2_with fail
        refine (HO1.out w1).mono ?_
        rintro e w2 ⟨g2, v2, rfl, hq2, hg2, hB2⟩
        have HT := Lib.hid (t04_times (HMID.out.later hB2) hq2.pr (by have := HGD.out.prod; omega) (by simp [ones]; have := HF2.out; omega) HGD.out.prod.1 (by simp [ones]; have := HF2.out; omega))
        unfold NewI at HT
        have HB2 := Lib.hid hB2
        clear hq2 hg2 hB2
        go_wp2_with fail
        refine HT.out.mono ?_
        rintro e w3 ⟨g3, v3, rfl, hq3, hg3, hB3⟩
        have HN := Lib.hid (HN1.out w3 v3 g3 (HB2.out.trans (hB3.mono HB2.out.size)) hq3 (Nat.le_trans HB2.out.size hg3))
        rw [← HSU.out] at HN
        clear hq3 hg3 hB3
        go_wp2_with fail
        go_roundw
        case rel => exact ⟨k + 1, by go_num, by omega, HN⟩
        case measure => simp [intOf]; omega
      · rw [if_neg hp] at hsucc
        obtain rfl : m = 0 := by omega
        rw [← hsucc] at HS
        clear hsucc f1 f2 hp
        go_wp2_with fail
        go_roundw
        case rel => exact ⟨k + 1, by go_num, by omega, HS⟩
        case measure => simp [intOf]; omega
    · obtain rfl : k = 3 := by omega
      rw [someOrd_all] at HS
      obtain ⟨ms, hms⟩ : ∃ ms, ms = Hy.orders o := ⟨_, rfl⟩
      have HG := Lib.hid (show Good ms from by rw [hms, ← someOrd_all]; exact (HGOOD.out 3 (by omega)).1)
      have HMS := Lib.hid hms
      rw [← hms] at HS
      have hge := HS.out.ge
      obtain ⟨a0, c0, hv0, hcells⟩ := HS.out.ord.open
      have hL : (nums .i64 (ints ms)).length = ms.length := by simp [nums, ints]
      rw [hL] at hv0
      obtain ⟨L, hL2⟩ : ∃ L, L = ms.length := ⟨_, rfl⟩
      rw [← hL2] at hv0
      have HLE := Lib.hid hL2
      subst hv0
      have HOC := Lib.hid (show ∀ i, i < ms.length → ∃ g off, a0 = some ⟨g, off, none⟩ ∧ wr.cell? ⟨g, off + i, none⟩ = some (.int .i64 ((ms.getD i 0 : Nat) : Int)) from fun i hi => hcells i _ (by simp [nums, ints, List.getD, List.getElem?_eq_getElem hi]))
      have hlt9 := HS.out.ord.lt
      have HLT := Lib.hid hlt9
      have HALL := Lib.hid HS.out.all
      have HB0 := Lib.hid (HW0.out.trans (HS.out.below.mono (by have := HZ.out; omega)))
      clear hms HGOOD HORD hk hL hL2 hcells hlt9 hge HS HC HZ HW0 HS0
      have H11 := Lib.hid (show PR .i64 (wr.alloc (.cells #[.int .i64 1, .int .i64 1] 3)) (.slice (some ⟨wr.heap.size, 0, none⟩) 2 2) [1, 1] from (IQ.of_block (k := .i64) (l := [1, 1]) (t := 3) (alloc_heap_new wr _) 2 rfl (by decide)).pr)
      have hBa := (Below.refl _ wr).alloc (Nat.le_refl _) (.cells #[.int .i64 1, .int .i64 1] 3)
      have HT := Lib.hid (t04_times (HALL.out.later hBa) H11.out (by have := HG.out.prod; omega) (by simp) HG.out.prod.1 (by simp))
      unfold NewI at HT
      have HBA := Lib.hid hBa
      clear hBa
      go_wp2_with fail
      refine HT.out.mono ?_
      rintro e w1 ⟨g1, v1, rfl, hq1, hg1, hB1⟩
      have HB1 := Lib.hid (HBA.out.trans (hB1.mono HBA.out.size))
      have HD := Lib.hid (show PR .i64 w1 v1 (fracD ms) from hq1.pr)
      have HAL1 := Lib.hid (HALL.out.later HB1.out)
      clear hq1 hg1 hB1 HT H11 HBA
      have HP := Lib.hid (t04_plus HD.out HAL1.out (by have := HG.out.fracD; have := HG.out.prod; omega) (by have := HG.out.fracD; omega) (-3))
      unfold NewI at HP
      go_wp2_with fail
      refine HP.out.mono ?_
      rintro e w2 ⟨g2, v2, rfl, hq2, hg2, hB2⟩
      have HB2 := Lib.hid (HB1.out.trans (hB2.mono HB1.out.size))
      have HN0 := Lib.hid (show PR .i64 w2 v2 (fracGo ms 0) from hq2.pr)
      have HAL2 := Lib.hid (HAL1.out.later hB2)
      have HD2 := Lib.hid (HD.out.later hB2)
      have HOC2 := Lib.hid (show ∀ i, i < ms.length → ∃ g off, a0 = some ⟨g, off, none⟩ ∧ g < w2.heap.size ∧ w2.cell? ⟨g, off + i, none⟩ = some (.int .i64 ((ms.getD i 0 : Nat) : Int)) from fun i hi => by
        obtain ⟨g, off, h1, h2⟩ := HOC.out i hi
        have h3 := HLT.out g (by rw [h1]; rfl)
        exact ⟨g, off, h1, Nat.lt_of_lt_of_le h3 HB2.out.size, (HB2.out.cell (p := ⟨g, off + i, none⟩) h3).trans h2⟩)
      have HBB := Lib.hid (HB0.out.trans (HB2.out.mono HB0.out.size))
      clear hq2 hg2 hB2 HP HOC HLT HALL HB0 HB1 HB2 HD HAL1
      go_wp2_with fail
      obtain ⟨wo, hwo⟩ : ∃ wo : World, wo = w2 := ⟨_, rfl⟩
      go_loopw [9, 52] (fun nv kv wr => ∃ k : Nat, kv = .int .i64 k ∧ k ≤ ms.length ∧ Hid (PR .i64 wr nv (fracGo ms k)) ∧ Hid (Below w2.heap.size w2 wr)) (fun _ kv _ => ms.length - (intOf kv).toNat)
      case atStart => exact ⟨0, rfl, Nat.zero_le _, HN0, Lib.hid (Below.refl _ _)⟩
      case round =>
        clear HN0
        obtain ⟨k, rfl, hk, HN, HW⟩ := hrel
        by_cases hlt : k < ms.length
        · obtain ⟨g, off, rfl, hgl, hcell⟩ := HOC2.out k hlt
          have c1 := (HW.out.cell (p := ⟨g, off + k, none⟩) hgl).trans hcell
          have hg2 := HG.out.two _ (List.getElem_mem hlt)
          have hg12 := HG.out.le _ (List.getElem_mem hlt)
          have hpart := HySer.part_rest HG.out.two hlt
          have hget : ms.getD k 0 = ms[k] := by simp [List.getD, List.getElem?_eq_getElem hlt]
          rw [hget] at c1
          have hsucc := fracGo_succ HG.out.two hlt
          obtain ⟨m, hm⟩ : ∃ m, m = ms[k] := ⟨_, rfl⟩
          rw [← hm] at c1 hg2 hg12 hpart
          have HKL := Lib.hid hlt
          have hk3 : k < 3 := by have := HG.out.len; omega
          have HSU := Lib.hid hsucc
          have HPA := Lib.hid hpart
          have HO1 := Lib.hid (HONE.out m (by omega) wr)
          unfold NewI at HO1
          have HM := Lib.hid (show 2 ≤ m ∧ m ≤ 12 from ⟨hg2, hg12⟩)
          have HRL := Lib.hid (rest_len HG.out.two hlt)
          have HFL := Lib.hid (fracGo_len HG.out k hk)
          have hlti : (k : Int) < (L : Int) := by have := HLE.out; omega
          clear hcell hg2 hg12 hpart hget hsucc hm
          go_wp2_with fail
          refine HO1.out.mono ?_
          rintro e w3 ⟨g3, v3, rfl, hq3, hg3, hB3⟩
          have HW3 := Lib.hid (HW.out.trans (hB3.mono HW.out.size))
          have HOV := Lib.hid (t04_over (HAL2.out.later HW3.out) hq3.pr (by have := HG.out.prod; omega) (by simp [ones]; have := HM.out; omega) (by simp [ones]; have := HM.out; omega))
          unfold OverPost at HOV
          have HN3 := Lib.hid (HN.out.later hB3)
          clear hq3 hg3 hB3 HO1
          go_wp2_with fail
          refine HOV.out.mono ?_
          rintro e w4 ⟨hB4, ⟨hn, rfl⟩ | ⟨q, g4, v4, hq, rfl, hq4, hg4⟩⟩
          · rw [HPA.out] at hn; cases hn
          · obtain rfl : HySer.restAll ms k = q := by rw [HPA.out] at hq; exact Option.some.inj hq
            have HW4 := Lib.hid (HW3.out.trans (hB4.mono HW3.out.size))
            have HP := Lib.hid (t04_plus (HN3.out.later hB4) hq4.pr (by have := HFL.out; have := HG.out.prod; omega) (by have := HFL.out; have := HRL.out; omega) 1)
            rw [← HSU.out] at HP
            unfold NewI at HP
            clear hB4 hq hq4 hg4 HOV
            go_wp2_with fail
            refine HP.out.mono ?_
            rintro e w5 ⟨g5, v5, rfl, hq5, hg5, hB5⟩
            have HN5 := Lib.hid hq5.pr
            have HW5 := Lib.hid (HW4.out.trans (hB5.mono HW4.out.size))
            clear hq5 hg5 hB5
            go_wp2_with fail
            go_roundw
            case rel => exact ⟨k + 1, by go_num, HKL.out, HN5, HW5⟩
            case measure => have := HKL.out; simp [intOf]; omega
        · obtain rfl : k = ms.length := by omega
          rw [fracGo_all] at HN
          have hlti : ¬ ((ms.length : Int) < (L : Int)) := by have := HLE.out; omega
          have HN9 := HN
          have HFL := Lib.hid (fracGo_len HG.out ms.length hk)
          rw [fracGo_all] at HFL
          have HD9 := Lib.hid (HD2.out.later HW.out)
          have HB9 := Lib.hid (HBB.out.trans (HW.out.mono HBB.out.size))
          have hfd := HG.out.fracD
          have hpr := HG.out.prod
          have HLN := Lib.hid (show (fracD ms).length ≤ 100000 ∧ (fracD ms).reverse.length ≤ 100000 from by rw [List.length_reverse]; omega)
          have HLM := Lib.hid (show (fracN ms).length ≤ 100000 ∧ (fracN ms).reverse.length ≤ 100000 from by rw [List.length_reverse]; have := HFL.out; omega)
          have HLP := Lib.hid (show 0 < (fracD ms).length ∧ 0 < (fracN ms).length from by have := HFL.out; omega)
          have HT1 := Lib.hid (t04_turned HD9.out HLN.out.1)
          unfold NewI at HT1
          clear hfd hpr hk HW HD2 HBB HAL2 HOC2 hlt HN HG HONE
          go_wp2_with fail
          refine HT1.out.mono ?_
          rintro e w3 ⟨g3, v3, rfl, hq3, hg3, hB3⟩
          have HT2 := Lib.hid (t04_trimmed hq3.pr HLN.out.2)
          have HB3 := Lib.hid hB3
          clear hq3 hg3 hB3 HT1
          go_wp2_with fail
          refine HT2.out.mono ?_
          rintro e w4 ⟨v4, rfl, hq4, rfl⟩
          have HS1 := Lib.hid hq4
          have HT3 := Lib.hid (t04_turned (HN9.out.later HB3.out) HLM.out.1)
          unfold NewI at HT3
          clear hq4 HT2
          go_wp2_with fail
          refine HT3.out.mono ?_
          rintro e w5 ⟨g5, v5, rfl, hq5, hg5, hB5⟩
          have HS2 := Lib.hid (HS1.out.later hB5)
          have HT4 := Lib.hid (t04_trimmed hq5.pr HLM.out.2)
          have HB5 := Lib.hid ((HB9.out.trans (HB3.out.mono HB9.out.size)).trans (hB5.mono (by have := HB9.out.size; have := HB3.out.size; omega)))
          clear hq5 hg5 hB5 HT3 HS1 HB3 HB9
          go_wp2_with fail
          refine HT4.out.mono ?_
          rintro e w6 ⟨v6, rfl, hq6, rfl⟩
          have HS3 := Lib.hid hq6
          clear hq6 HT4
          have HCI := Lib.hid (t04_circles w5)
          go_wp2_with fail
          refine HCI.out.mono ?_
          rintro e w7 ⟨v7, vs, rfl, hL⟩
          obtain ⟨N0, hN0⟩ : ∃ N0, N0 = ptrim (fracD ms).reverse := ⟨_, rfl⟩
          obtain ⟨D0, hD0⟩ : ∃ D0, D0 = ptrim (fracN ms).reverse := ⟨_, rfl⟩
          have HFR := Lib.hid (show (circs 11).foldl red (N0, D0) = frac (Hy.orders o) from by rw [hN0, hD0, ← HMS.out]; rfl)
          have HLEN := Lib.hid (show N0.length ≤ 100000 ∧ D0.length ≤ 100000 ∧ 0 < N0.length ∧ 0 < D0.length from by
            obtain ⟨p1, p2⟩ := HySer.trimGo_len (fracD ms).reverse.length (l := (fracD ms).reverse)
            obtain ⟨p3, p4⟩ := HySer.trimGo_len (fracN ms).reverse.length (l := (fracN ms).reverse)
            have q1 := HLN.out.2; have q2 := HLM.out.2; have q3 := HLP.out
            rw [hN0, hD0]
            unfold ptrim
            simp only [List.length_reverse] at p2 p4 q1 q2 q3 ⊢
            simp only [List.length_reverse] at p1 p3
            exact ⟨by omega, by omega, p2 (by omega), p4 (by omega)⟩)
          rw [← hN0] at HS2
          rw [← hD0] at HS3
          have HB7 := Lib.hid (HB5.out.trans (hL.below.mono HB5.out.size))
          have HP1 := Lib.hid (HS2.out.later hL.below)
          have HP2 := Lib.hid (HS3.out.later hL.below)
          have HLL := Lib.hid hL
          obtain ⟨a7, c7, hv7, hcells⟩ := hL.q.open
          have hvl : vs.length = 11 := by rw [hL.len, length_circs]
          rw [hvl] at hv7
          subst hv7
          have HCC := Lib.hid hcells
          clear hL hN0 hD0 hvl hcells HCI HS2 HS3 HB5 HFL HLN HLM HLP HMS HN9 HD9
          obtain ⟨s, hs⟩ : ∃ s : List Int × List Int, s = (N0, D0) := ⟨_, rfl⟩
          have e1 : N0 = (redTo s 0).1 := by rw [hs]; rfl
          have e2 : D0 = (redTo s 0).2 := by rw [hs]; rfl
          have HSL := Lib.hid (show 0 < s.1.length ∧ 0 < s.2.length ∧ s.1.length ≤ 100000 ∧ s.2.length ≤ 100000 from by have := HLEN.out; rw [hs]; simp only; omega)
          rw [e1] at HP1
          rw [e2] at HP2
          have HFR2 := Lib.hid (show redTo s 11 = frac (Hy.orders o) from by rw [← HFR.out, hs]; unfold redTo; rw [List.take_of_length_le (by rw [length_circs]; omega)])
          have HCL := Lib.hid (show ∀ i, i < 11 → ∃ x g off, a7 = some ⟨g, off, none⟩ ∧ g < w7.heap.size ∧ w7.cell? ⟨g, off + i, none⟩ = some x ∧ PR .i64 w7 x ((circs 11).getD i []) from fun i hi => by
            obtain ⟨x, x1, x2, _⟩ := HLL.out.each i (by rw [length_circs]; exact hi)
            obtain ⟨g, off, h1, h2⟩ := HCC.out i x x1
            exact ⟨x, g, off, h1, HLL.out.q.lt g (by rw [h1]; rfl), h2, x2⟩)
          clear hs e1 e2 HLEN HFR HLL HCC
          go_wp2_with fail
          go_loopw [2, 3, 75] (fun nv dv kv wr => ∃ k : Nat, kv = .int .i64 k ∧ k ≤ 11 ∧ Hid (PR .i64 wr nv (redTo s k).1) ∧ Hid (PR .i64 wr dv (redTo s k).2) ∧ Hid (Below w7.heap.size w7 wr)) (fun _ _ kv _ => 11 - (intOf kv).toNat)
          case atStart => exact ⟨0, rfl, Nat.zero_le _, HP1, HP2, Lib.hid (Below.refl _ _)⟩
          case round =>
            clear HP1 HP2
            obtain ⟨k, rfl, hk, HQ1, HQ2, HW⟩ := hrel
            by_cases hlt : k < 11
            · obtain ⟨x, g, off, rfl, hgl, hcell, hx⟩ := HCL.out k hlt
              have c1 := (HW.out.cell (p := ⟨g, off + k, none⟩) hgl).trans hcell
              have HX := Lib.hid (hx.later HW.out)
              have hsucc := redTo_succ s hlt
              have hcl := circ_at hlt
              obtain ⟨c, hc⟩ : ∃ c, c = (circs 11).getD k [] := ⟨_, rfl⟩
              rw [← hc] at hcl hsucc HX
              have hl := redTo_len HSL.out.1 HSL.out.2.1 k hk
              obtain ⟨N1, hN1⟩ : ∃ N1, N1 = (redTo s k).1 := ⟨_, rfl⟩
              obtain ⟨D1, hD1⟩ : ∃ D1, D1 = (redTo s k).2 := ⟨_, rfl⟩
              have HT := Lib.hid (show redTo s (k + 1) = redGo c N1.length N1 D1 from by rw [hsucc, hN1, hD1]; rfl)
              have HCL2 := Lib.hid hcl
              rw [← hN1, ← hD1] at hl
              rw [← hN1] at HQ1
              rw [← hD1] at HQ2
              have HLL := Lib.hid (show 0 < N1.length ∧ 0 < D1.length ∧ N1.length ≤ 100000 ∧ D1.length ≤ 100000 from by have := HSL.out; omega)
              have hlti : (k : Int) < 11 := by omega
              have HKL := Lib.hid hlt
              clear hcell hx hsucc hcl hc hl hN1 hD1
              go_wp2_with fail
              go_loopw [2, 3] (fun nv dv wq => ∃ (f : Nat) (N2 D2 : List Int), N2.length ≤ f ∧ Hid (redGo c f N2 D2 = redTo s (k + 1)) ∧ Hid (0 < N2.length ∧ 0 < D2.length ∧ N2.length ≤ 100000 ∧ D2.length ≤ 100000) ∧ Hid (PR .i64 wq nv N2) ∧ Hid (PR .i64 wq dv D2) ∧ Hid (PR .i64 wq x c) ∧ Hid (Below w7.heap.size w7 wq)) (fun nv _ _ => lenOf nv)
              case atStart => exact ⟨N1.length, N1, D1, Nat.le_refl _, Lib.hid HT.out.symm, HLL, HQ1, HQ2, HX, HW⟩
              case round =>
                clear HQ1 HQ2 HX HT HLL HW
                obtain ⟨f, N2, D2, hf, HT, HLL, HQ1, HQ2, HX, HW⟩ := hrel
                have hq1 := HQ1.out
                obtain ⟨gn, on, cn, rfl, _, _, _⟩ := hq1
                have HOA := Lib.hid (t04_over HQ1.out HX.out HLL.out.2.2.1 (by have := HCL2.out; omega) (by have := HCL2.out; omega))
                unfold OverPost at HOA
                go_wp2_with fail
                refine HOA.out.mono ?_
                rintro e w8 ⟨hB8, hcase⟩
                have HB8 := Lib.hid hB8
                have HQ1b := Lib.hid (HQ1.out.later hB8)
                have HQ2b := Lib.hid (HQ2.out.later hB8)
                have HXb := Lib.hid (HX.out.later hB8)
                have HW8 := Lib.hid (HW.out.trans (hB8.mono HW.out.size))
                have HOB := Lib.hid (t04_over HQ2b.out HXb.out HLL.out.2.2.2 (by have := HCL2.out; omega) (by have := HCL2.out; omega))
                unfold OverPost at HOB
                have HCA := Lib.hid hcase
                have HNX := Lib.hid (redGo_next (c := c) (f := f) (N2 := N2) (D2 := D2) hf HLL.out.1 HLL.out.2.1 HLL.out.2.2.1 HLL.out.2.2.2 HCL2.out.1)
                clear hB8 HQ1 HQ2 HX HW HOA hf
                rcases hcase with ⟨hn, rfl⟩ | ⟨q, g4, v4, hq, rfl, hq4, hg4⟩
                · have HR := Lib.hid (HNX.out.1 (.inl hn))
                  rw [HT.out] at HR
                  clear hn HNX HCA HT
                  go_wp2_with fail
                  refine HOB.out.mono ?_
                  rintro e w9 ⟨hB9, hcase⟩
                  have HR1 := Lib.hid (show PR .i64 w9 (.slice (some ⟨gn, on, none⟩) N2.length cn) (redTo s (k + 1)).1 from by rw [HR.out]; exact HQ1b.out.later hB9)
                  have HR2 := Lib.hid (show PR .i64 w9 u3 (redTo s (k + 1)).2 from by rw [HR.out]; exact HQ2b.out.later hB9)
                  have HWB := Lib.hid (HW8.out.trans (hB9.mono HW8.out.size))
                  clear hB9 HQ1b HQ2b HXb HW8 HOB
                  rcases hcase with ⟨_, rfl⟩ | ⟨q, g4, v4, _, rfl, _, _⟩
                  · go_wp2_with fail
                    go_roundw
                    case rel => exact ⟨k + 1, by go_num, HKL.out, HR1, HR2, HWB⟩
                    case measure => have := HKL.out; simp [intOf]; omega
                  · go_wp2_with fail
                    go_roundw
                    case rel => exact ⟨k + 1, by go_num, HKL.out, HR1, HR2, HWB⟩
                    case measure => have := HKL.out; simp [intOf]; omega
                · have HPN := Lib.hid hq4.pr
                  have HNQ := Lib.hid hq
                  clear hq hq4 hg4 HCA
                  go_wp2_with fail
                  refine HOB.out.mono ?_
                  rintro e w9 ⟨hB9, hcase⟩
                  rcases hcase with ⟨hn, rfl⟩ | ⟨q', g5, v5, hq', rfl, hq5, hg5⟩
                  · have HR := Lib.hid (HNX.out.1 (.inr hn))
                    rw [HT.out] at HR
                    have HR1 := Lib.hid (show PR .i64 w9 (.slice (some ⟨gn, on, none⟩) N2.length cn) (redTo s (k + 1)).1 from by rw [HR.out]; exact HQ1b.out.later hB9)
                    have HR2 := Lib.hid (show PR .i64 w9 u3 (redTo s (k + 1)).2 from by rw [HR.out]; exact HQ2b.out.later hB9)
                    have HWB := Lib.hid (HW8.out.trans (hB9.mono HW8.out.size))
                    clear hn HNX HT hB9 HQ1b HQ2b HXb HW8 HOB
                    go_wp2_with fail
                    go_roundw
                    case rel => exact ⟨k + 1, by go_num, HKL.out, HR1, HR2, HWB⟩
                    case measure => have := HKL.out; simp [intOf]; omega
                  · obtain ⟨f', hR, hf', hl', hlt'⟩ := HNX.out.2 q q' HNQ.out hq'
                    rw [HT.out] at hR
                    have HR := Lib.hid hR.symm
                    have HL' := Lib.hid hl'
                    have HR1 := Lib.hid (HPN.out.later hB9)
                    have HR2 := Lib.hid hq5.pr
                    have HXc := Lib.hid (HXb.out.later hB9)
                    have HWB := Lib.hid (HW8.out.trans (hB9.mono HW8.out.size))
                    have HLT := Lib.hid hlt'
                    have HF' := Lib.hid hf'
                    have hq4 := HPN.out
                    obtain ⟨gq, oq, cq, rfl, _, _, _⟩ := hq4
                    clear hR hf' hl' hlt' hq' hq5 hg5 hB9 HNX HT HQ1b HQ2b HXb HW8 HOB HPN
                    go_wp2_with fail
                    go_roundw
                    case rel => exact ⟨f', q, q', HF'.out, HR, HL', HR1, HR2, HXc, HWB⟩
                    case measure => have := HLT.out; simp [lenOf]; omega
            · obtain rfl : k = 11 := by omega
              have HF1 := Lib.hid (show PR .i64 wr u2 (frac (Hy.orders o)).1 from by rw [← HFR2.out]; exact HQ1.out)
              have HF2 := Lib.hid (show PR .i64 wr u3 (frac (Hy.orders o)).2 from by rw [← HFR2.out]; exact HQ2.out)
              have HWF := Lib.hid (HB7.out.trans (HW.out.mono HB7.out.size))
              clear HQ1 HQ2 HW hlt
              go_wp2_with fail
              go_ret2
              exact ⟨_, _, rfl, HF1.out, HF2.out, HWF.out⟩
end Go.Proofs.Ytdckpjagmbdkgaa
