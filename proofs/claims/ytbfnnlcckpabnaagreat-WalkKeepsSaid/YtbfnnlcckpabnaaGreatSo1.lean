import Derived.Shelf.SlSortCmp.NoneTotal
import Derived.Test.YtbfnnlcckpabnaaGreatProg
import Derived.Test.YtbfnnlcckpabnaaGreatLd1
import Derived.Test.YtbfnnlcckpabnaaGreatApp0
import Derived.Test.YtbfnnlcckpabnaaGreatApq

/- slices.SortFunc at the walls and at the tiles: the shelf's layings in plain words (lay-plain.mjs's form). -/
namespace Go.Proofs.YtbfnnlcckpabnaaGreat
set_option linter.unusedSimpArgs false
set_option linter.unusedVariables false
open Go.Shelf
def sortE_ren : Go.Shelf.Ren := ⟨fun | 6 => 85 | 15 => 99 | 14 => 98 | 28 => 116 | 29 => 117 | 20 => 108 | 21 => 109 | 22 => 110 | 23 => 111 | 24 => 112 | 25 => 113 | 26 => 114 | 27 => 115 | 46 => 126 | 47 => 127 | 48 => 128 | 49 => 129 | 50 => 130 | 57 => 134 | n => n, fun | 22 => 79 | 24 => 64 | 25 => 138 | 3 => 3 | 39 => 78 | 0 => 0 | 53 => 198 | 55 => 200 | 4 => 4 | 46 => 191 | 45 => 190 | 50 => 195 | 5 => 5 | 9 => 9 | 66 => 206 | 70 => 210 | 76 => 214 | 77 => 215 | n => n, fun | n => n⟩
theorem sortE : Go.Proofs.SlLaysF0.n6 Tryz.prog sortE_ren := {
  mixed := by kernel_rfl
  f6 := ⟨Tryz.f85.name, by decide, Tryz.func85.trans (congrArg some (by kernel_rfl))⟩
  f14 := ⟨Tryz.f98.name, by decide, Tryz.func98.trans (congrArg some (by kernel_rfl))⟩
  f15 := Tryz.func99.trans (congrArg some (by kernel_rfl))
  f20 := ⟨Tryz.f108.name, by decide, Tryz.func108.trans (congrArg some (by kernel_rfl))⟩
  f21 := ⟨Tryz.f109.name, by decide, Tryz.func109.trans (congrArg some (by kernel_rfl))⟩
  f22 := ⟨Tryz.f110.name, by decide, Tryz.func110.trans (congrArg some (by kernel_rfl))⟩
  f23 := ⟨Tryz.f111.name, by decide, Tryz.func111.trans (congrArg some (by kernel_rfl))⟩
  f24 := ⟨Tryz.f112.name, by decide, Tryz.func112.trans (congrArg some (by kernel_rfl))⟩
  f25 := ⟨Tryz.f113.name, by decide, Tryz.func113.trans (congrArg some (by kernel_rfl))⟩
  f26 := ⟨Tryz.f114.name, by decide, Tryz.func114.trans (congrArg some (by kernel_rfl))⟩
  f27 := ⟨Tryz.f115.name, by decide, Tryz.func115.trans (congrArg some (by kernel_rfl))⟩
  f28 := Tryz.func116.trans (congrArg some (by kernel_rfl))
  f29 := Tryz.func117.trans (congrArg some (by kernel_rfl))
  f46 := ⟨Tryz.f126.name, by decide, Tryz.func126.trans (congrArg some (by kernel_rfl))⟩
  f47 := Tryz.func127.trans (congrArg some (by kernel_rfl))
  f48 := Tryz.func128.trans (congrArg some (by kernel_rfl))
  f49 := ⟨Tryz.f129.name, by decide, Tryz.func129.trans (congrArg some (by kernel_rfl))⟩
  f50 := ⟨Tryz.f130.name, by decide, Tryz.func130.trans (congrArg some (by kernel_rfl))⟩
  f57 := ⟨Tryz.f134.name, by decide, Tryz.func134.trans (congrArg some (by kernel_rfl))⟩
  t0 := Tryz.underlying0
  a0 := Tryz.isAgg0
  z0 := Tryz.sizeOf0
  v0 := Tryz.zeroValue0
  t3 := Tryz.underlying3
  a3 := Tryz.isAgg3
  z3 := Tryz.sizeOf3
  v3 := Tryz.zeroValue3
  t4 := Tryz.underlying4
  a4 := Tryz.isAgg4
  z4 := Tryz.sizeOf4
  v4 := Tryz.zeroValue4
  t5 := Tryz.underlying5
  a5 := Tryz.isAgg5
  z5 := Tryz.sizeOf5
  v5 := Tryz.zeroValue5
  t9 := Tryz.underlying9
  a9 := Tryz.isAgg9
  z9 := Tryz.sizeOf9
  v9 := Tryz.zeroValue9
  t22 := Tryz.underlying79
  a22 := Tryz.isAgg79
  z22 := Tryz.sizeOf79
  v22 := Tryz.zeroValue79
  t25 := Tryz.underlying138
  a25 := Tryz.isAgg138
  z25 := Tryz.sizeOf138
  v25 := Tryz.zeroValue138
  t39 := Tryz.underlying78
  a39 := Tryz.isAgg78
  z39 := Tryz.sizeOf78
  v39 := Tryz.zeroValue78
  t45 := Tryz.underlying190
  a45 := Tryz.isAgg190
  z45 := Tryz.sizeOf190
  v45 := Tryz.zeroValue190
  t46 := Tryz.underlying191
  a46 := Tryz.isAgg191
  z46 := Tryz.sizeOf191
  v46 := Tryz.zeroValue191
  t50 := Tryz.underlying195
  a50 := Tryz.isAgg195
  z50 := Tryz.sizeOf195
  v50 := Tryz.zeroValue195
  t53 := Tryz.underlying198
  a53 := Tryz.isAgg198
  z53 := Tryz.sizeOf198
  v53 := Tryz.zeroValue198
  t55 := Tryz.underlying200
  a55 := Tryz.isAgg200
  z55 := Tryz.sizeOf200
  v55 := Tryz.zeroValue200
  t66 := Tryz.underlying206
  a66 := Tryz.isAgg206
  z66 := Tryz.sizeOf206
  v66 := Tryz.zeroValue206
  t70 := Tryz.underlying210
  a70 := Tryz.isAgg210
  z70 := Tryz.sizeOf210
  v70 := Tryz.zeroValue210
  t76 := Tryz.underlying214
  a76 := Tryz.isAgg214
  z76 := Tryz.sizeOf214
  v76 := Tryz.zeroValue214
  t77 := Tryz.underlying215
  a77 := Tryz.isAgg215
  z77 := Tryz.sizeOf215
  v77 := Tryz.zeroValue215 }
def sortS_ren : Go.Shelf.Ren := ⟨fun | 6 => 89 | 15 => 99 | 14 => 101 | 28 => 116 | 29 => 117 | 20 => 118 | 21 => 119 | 22 => 120 | 23 => 121 | 24 => 122 | 25 => 123 | 26 => 124 | 27 => 125 | 46 => 131 | 47 => 127 | 48 => 128 | 49 => 132 | 50 => 133 | 57 => 135 | n => n, fun | 22 => 81 | 24 => 9 | 25 => 125 | 3 => 3 | 39 => 78 | 0 => 0 | 53 => 198 | 55 => 200 | 4 => 4 | 46 => 191 | 45 => 190 | 50 => 195 | 5 => 5 | 9 => 9 | 66 => 206 | 70 => 210 | 76 => 214 | 77 => 215 | n => n, fun | n => n⟩
theorem sortS : Go.Proofs.SlLaysF.n6 Tryz.prog sortS_ren := {
  mixed := by kernel_rfl
  f6 := ⟨Tryz.f89.name, by decide, Tryz.func89.trans (congrArg some (by kernel_rfl))⟩
  f14 := ⟨Tryz.f101.name, by decide, Tryz.func101.trans (congrArg some (by kernel_rfl))⟩
  f15 := Tryz.func99.trans (congrArg some (by kernel_rfl))
  f20 := ⟨Tryz.f118.name, by decide, Tryz.func118.trans (congrArg some (by kernel_rfl))⟩
  f21 := ⟨Tryz.f119.name, by decide, Tryz.func119.trans (congrArg some (by kernel_rfl))⟩
  f22 := ⟨Tryz.f120.name, by decide, Tryz.func120.trans (congrArg some (by kernel_rfl))⟩
  f23 := ⟨Tryz.f121.name, by decide, Tryz.func121.trans (congrArg some (by kernel_rfl))⟩
  f24 := ⟨Tryz.f122.name, by decide, Tryz.func122.trans (congrArg some (by kernel_rfl))⟩
  f25 := ⟨Tryz.f123.name, by decide, Tryz.func123.trans (congrArg some (by kernel_rfl))⟩
  f26 := ⟨Tryz.f124.name, by decide, Tryz.func124.trans (congrArg some (by kernel_rfl))⟩
  f27 := ⟨Tryz.f125.name, by decide, Tryz.func125.trans (congrArg some (by kernel_rfl))⟩
  f28 := Tryz.func116.trans (congrArg some (by kernel_rfl))
  f29 := Tryz.func117.trans (congrArg some (by kernel_rfl))
  f46 := ⟨Tryz.f131.name, by decide, Tryz.func131.trans (congrArg some (by kernel_rfl))⟩
  f47 := Tryz.func127.trans (congrArg some (by kernel_rfl))
  f48 := Tryz.func128.trans (congrArg some (by kernel_rfl))
  f49 := ⟨Tryz.f132.name, by decide, Tryz.func132.trans (congrArg some (by kernel_rfl))⟩
  f50 := ⟨Tryz.f133.name, by decide, Tryz.func133.trans (congrArg some (by kernel_rfl))⟩
  f57 := ⟨Tryz.f135.name, by decide, Tryz.func135.trans (congrArg some (by kernel_rfl))⟩
  t0 := Tryz.underlying0
  a0 := Tryz.isAgg0
  z0 := Tryz.sizeOf0
  v0 := Tryz.zeroValue0
  t3 := Tryz.underlying3
  a3 := Tryz.isAgg3
  z3 := Tryz.sizeOf3
  v3 := Tryz.zeroValue3
  t4 := Tryz.underlying4
  a4 := Tryz.isAgg4
  z4 := Tryz.sizeOf4
  v4 := Tryz.zeroValue4
  t5 := Tryz.underlying5
  a5 := Tryz.isAgg5
  z5 := Tryz.sizeOf5
  v5 := Tryz.zeroValue5
  t9 := Tryz.underlying9
  a9 := Tryz.isAgg9
  z9 := Tryz.sizeOf9
  v9 := Tryz.zeroValue9
  t22 := Tryz.underlying81
  a22 := Tryz.isAgg81
  z22 := Tryz.sizeOf81
  v22 := Tryz.zeroValue81
  a24 := Tryz.isAgg9
  z24 := Tryz.sizeOf9
  t25 := Tryz.underlying125
  a25 := Tryz.isAgg125
  z25 := Tryz.sizeOf125
  v25 := Tryz.zeroValue125
  t39 := Tryz.underlying78
  a39 := Tryz.isAgg78
  z39 := Tryz.sizeOf78
  v39 := Tryz.zeroValue78
  t45 := Tryz.underlying190
  a45 := Tryz.isAgg190
  z45 := Tryz.sizeOf190
  v45 := Tryz.zeroValue190
  t46 := Tryz.underlying191
  a46 := Tryz.isAgg191
  z46 := Tryz.sizeOf191
  v46 := Tryz.zeroValue191
  t50 := Tryz.underlying195
  a50 := Tryz.isAgg195
  z50 := Tryz.sizeOf195
  v50 := Tryz.zeroValue195
  t53 := Tryz.underlying198
  a53 := Tryz.isAgg198
  z53 := Tryz.sizeOf198
  v53 := Tryz.zeroValue198
  t55 := Tryz.underlying200
  a55 := Tryz.isAgg200
  z55 := Tryz.sizeOf200
  v55 := Tryz.zeroValue200
  t66 := Tryz.underlying206
  a66 := Tryz.isAgg206
  z66 := Tryz.sizeOf206
  v66 := Tryz.zeroValue206
  t70 := Tryz.underlying210
  a70 := Tryz.isAgg210
  z70 := Tryz.sizeOf210
  v70 := Tryz.zeroValue210
  t76 := Tryz.underlying214
  a76 := Tryz.isAgg214
  z76 := Tryz.sizeOf214
  v76 := Tryz.zeroValue214
  t77 := Tryz.underlying215
  a77 := Tryz.isAgg215
  z77 := Tryz.sizeOf215
  v77 := Tryz.zeroValue215 }
end Go.Proofs.YtbfnnlcckpabnaaGreat

/- slices.SortFunc at the walls and at the tiles: what the rows hold behind it. -/
namespace Go.Proofs.YtbfnnlcckpabnaaGreat
set_option linter.unusedSimpArgs false
set_option linter.unusedVariables false
open Go.RowKit

theorem perm_sorted {α : Type} {r : α → α → Prop} (ha : ∀ a b, r a b → r b a → False) : ∀ {l m : List α}, l.Perm m → l.Pairwise r → m.Pairwise r → l = m
  | [], m, h, _, _ => (List.nil_perm.1 h).symm
  | a :: l, [], h, _, _ => absurd h.length_eq (by simp)
  | a :: l, b :: m, h, h1, h2 => by
    obtain ⟨p1, p2⟩ := List.pairwise_cons.1 h1
    obtain ⟨q1, q2⟩ := List.pairwise_cons.1 h2
    have hab : a = b := by
      rcases List.mem_cons.1 (h.mem_iff.1 (List.mem_cons_self)) with e | ha'
      · exact e
      · rcases List.mem_cons.1 (h.mem_iff.2 (List.mem_cons_self (a := b) (l := m))) with e | hb'
        · exact e.symm
        · exact (ha a b (p1 b hb') (q1 a ha')).elim
    subst hab
    rw [perm_sorted ha ((List.perm_cons a).1 h) p2 q2]

theorem grow_of_below {w w' : World} (h : Below w.heap.size w w') (hd : w.drawn ≤ w'.drawn) : ∃ q os', w' = Sort.grow (w.drewN q) os' := by
  refine ⟨w'.drawn - w.drawn, w'.heap.extract w.heap.size w'.heap.size, ?_⟩
  have hheap : w'.heap = w.heap ++ w'.heap.extract w.heap.size w'.heap.size := by
    apply Array.ext_getElem?
    intro k
    rw [Array.getElem?_append]
    by_cases hk : k < w.heap.size
    · rw [if_pos hk]; exact h.block k hk
    · rw [if_neg hk, Array.getElem?_extract]
      split
      · congr 1; omega
      · rw [Array.getElem?_eq_none (by have := h.size; omega)]
  obtain ⟨hp, tp, dr, os, ou⟩ := w
  obtain ⟨hp', tp', dr', os', ou'⟩ := w'
  have e1 := h.os; have e2 := h.tape; have e3 := h.output
  simp only at hd hheap e1 e2 e3
  subst e1; subst e2; subst e3
  simp only [Sort.grow, World.drewN, World.mk.injEq, and_true, true_and]
  exact ⟨hheap, by omega⟩

theorem below_put {α : Type} [Inhabited α] {enc : α → Value} {w : World} {g off n base : Nat} {d : Array α} {os : Array Obj} (h : base ≤ g) (hb : base ≤ w.heap.size) : Below base w (Sort.grow (Sort.putRow enc (Sort.ahead w n) g off d) os) := by
  refine ⟨rfl, rfl, rfl, by simp [Sort.grow], fun k hk => ?_⟩
  rw [Sort.heap_grow_old _ _ (by simp; omega)]
  have : g ≠ k := by omega
  simp [Sort.putRow, Sort.mapBlock, Sort.ahead, Array.getElem?_modify, this]

/-- A text of some length. -/
abbrev SWord := { l : List UInt8 // l.length ≤ 1000 }
instance : Inhabited SWord := ⟨⟨[], by simp⟩⟩
/-- A side. -/
abbrev SEdge := { e : List UInt8 × Int // e.1.length ≤ 1000 }
instance : Inhabited SEdge := ⟨⟨([], 0), by simp⟩⟩

theorem ltS (x y : SWord) : ltOf (fun x y : SWord => Hy.cmpW x.1 y.1) x y = aheadW x.1 y.1 := by
  unfold ltOf
  cases h : aheadW x.1 y.1 with
  | true => exact decide_eq_true (cmpW_ahead.2 h)
  | false => exact decide_eq_false (fun h2 => by rw [cmpW_ahead.1 h2] at h; cases h)

theorem swoS : Sort.SWO (ltOf fun x y : SWord => Hy.cmpW x.1 y.1) where
  irrefl x := by rw [ltS]; exact ahead_irrefl _
  trans x y z h1 h2 := by rw [ltS] at *; exact ahead_trans h1 h2
  ntrans x y z h1 h2 := by
    rw [ltS] at *
    cases h3 : aheadW x.1 z.1 with
    | false => rfl
    | true =>
      by_cases e : y.1 = x.1
      · rw [e, h3] at h2; cases h2
      · rcases ahead_total e with h4 | h4
        · rw [ahead_trans h4 h3] at h2; cases h2
        · rw [h4] at h1; cases h1

theorem ltE (x y : SEdge) : ltOf (fun x y : SEdge => cmpE x.1 y.1) x y = before x.1 y.1 := by
  unfold ltOf
  cases h : before x.1 y.1 with
  | true => exact decide_eq_true (cmpE_before.2 h)
  | false => exact decide_eq_false (fun h2 => by rw [cmpE_before.1 h2] at h; cases h)

theorem swoE : Sort.SWO (ltOf fun x y : SEdge => cmpE x.1 y.1) where
  irrefl x := by rw [ltE]; exact before_irrefl _
  trans x y z h1 h2 := by rw [ltE] at *; exact before_trans h1 h2
  ntrans x y z h1 h2 := by
    rw [ltE] at *
    cases h3 : before x.1 z.1 with
    | false => rfl
    | true =>
      by_cases e : y.1 = x.1
      · rw [e, h3] at h2; cases h2
      · rcases before_total e with h4 | h4
        · rw [before_trans h4 h3] at h2; cases h2
        · rw [h4] at h1; cases h1

/-- The keys of a row of texts. -/
def KeyRow1 (N : Nat) (w : World) (v : Value) (L : List (List UInt8)) : Prop :=
  ∃ (p : Option Addr) (cap : Nat), v = .slice p L.length cap ∧ ∀ (k : Nat) (hk : k < L.length), ∃ g off, p = some ⟨g, off, none⟩ ∧ N ≤ g ∧ g < w.heap.size ∧ w.cell? ⟨g, off + k, none⟩ = some (str L[k])
def KeyRow2 (N : Nat) (w : World) (v : Value) (L : List (List UInt8 × Int)) : Prop :=
  ∃ (p : Option Addr) (cap : Nat), v = .slice p L.length cap ∧ ∀ (k : Nat) (hk : k < L.length), ∃ g off, p = some ⟨g, off, none⟩ ∧ N ≤ g ∧ g < w.heap.size ∧ w.cell? ⟨g, off + k * 2, none⟩ = some (encW0 L[k]) ∧ w.cell? ⟨g, off + k * 2 + 1, none⟩ = some (encW1 L[k])

theorem enters_first : ∀ args w, (callFunc 56 args).run Tryz.prog w = .ok (.enter 56 args) w := enters_of Tryz.func56 (by kernel_rfl) rfl
theorem enters_ordered : ∀ args w, (callFunc 65 args).run Tryz.prog w = .ok (.enter 65 args) w := enters_of Tryz.func65 (by kernel_rfl) rfl

set_option maxRecDepth 100000 in
set_option maxHeartbeats 1000000 in
theorem sortFuncS {base : Nat} {w : World} {v : Value} {D : List (List UInt8)} (h : w.ownsRow base 9 1 v D.length (D.map str)) (hl : ∀ x ∈ D, x.length ≤ 1000) (hn : D.length ≤ 100000) (hb : base ≤ w.heap.size) :
    Calls Tryz.prog 89 #[v, .func (.func 56) #[] #[]] w fun e w' => e = .returned (.tuple #[]) ∧ ∃ L : List (List UInt8), L.Perm D ∧ L.Pairwise (fun x y => aheadW y x = false) ∧ KeyRow1 base w' v L ∧ Below base w w' := by
  rcases h.2 with ⟨rfl, h0⟩ | ⟨g, cap, cur, rfl, hg0, hg, h1, h2, h3, h4⟩
  · have hD : D = [] := by cases D with | nil => rfl | cons _ _ => simp at h0
    subst hD
    refine (AnyF.slices_SortFunc_none (P := Tryz.prog) (ρ := sortS_ren) { sortS with } none 0 _ w).mono ?_
    rintro e w' ⟨rfl, rfl⟩
    exact ⟨rfl, [], List.Perm.refl _, List.Pairwise.nil, ⟨none, 0, rfl, fun k hk => by simp at hk⟩, Below.refl _ _⟩
  · obtain ⟨d, hd⟩ : ∃ d : Array SWord, d.toList.map (·.1) = D := ⟨(D.attach.map fun x => (⟨x.1, hl x.1 x.2⟩ : SWord)).toArray, by simp⟩
    have hds : d.size = D.length := by rw [← hd]; simp
    have hdj : ∀ (j : Nat) (hj : j < d.size), d[j]!.1 = D[j]'(by omega) := fun j hj => by
      subst hd
      simp [hj]
    have hH : Sort.Holds (fun x : SWord => str x.1) w g 0 d := fun j hj => by
      refine ⟨?_, free_of_heap hg _⟩
      have := h.cells (g := g) rfl j (str (D[j]'(by omega))) (by rw [List.getElem?_map, List.getElem?_eq_getElem (by omega)]; rfl)
      rw [Addr.add_lit] at this
      show _ = some (str d[j]!.1)
      rw [hdj j hj]
      exact this
    have hgl : g < w.heap.size := (Array.getElem?_eq_some_iff.1 hg).1
    have hcmp : CmpLays1 Tryz.prog 56 #[] (fun x : SWord => str x.1) (fun x y : SWord => Hy.cmpW x.1 y.1) g 0 d.size w := fun m os dk _ x y =>
      (walk_first x.1 y.1 _ (by have := x.2; omega) (by have := y.2; omega)).mono fun e w' hp => ⟨hp.1, 0, #[], by rw [← hp.2, Sort.grow_empty]; rfl⟩
    have hc := Any.slices_SortFunc (P := Tryz.prog) (ρ := sortS_ren) sortS (fun x : SWord => str x.1) (fun _ => rfl) (fun x y : SWord => Hy.cmpW x.1 y.1) swoS 56 #[] g 0 cap d w enters_first hcmp hH hgl (by omega)
    rw [hds] at hc
    refine hc.mono ?_
    rintro e w' ⟨rfl, d', n, os, ⟨hp1, _, hp3⟩, hs, rfl⟩
    rw [← hds] at hp3 hs
    have hds' : d'.size = D.length := by omega
    have hperm : d'.toList.Perm d.toList := by
      have e1 : d'.extract 0 d.size = d' := by rw [← hp1]; exact Array.extract_size
      have e2 : d.extract 0 d.size = d := Array.extract_size
      rw [e1, e2] at hp3
      exact hp3
    have hH' : Sort.Holds (fun x : SWord => str x.1) (sortWorld (fun x : SWord => str x.1) w g 0 n d' os) g 0 d' := by
      unfold sortWorld
      exact Sort.holds_grow _ _ _ _ _ _ (by simpa using hgl) (Sort.holds_putRow _ _ _ _ d d' (Sort.holds_ahead _ _ _ _ _ _ hH) (by omega))
    refine ⟨rfl, d'.toList.map (·.1), ?_, ?_, ⟨some ⟨g, 0, none⟩, cap, by simp [hds'], fun k hk => ?_⟩, ?_⟩
    · rw [← hd]; exact hperm.map _
    · rw [List.pairwise_map, List.pairwise_iff_getElem]
      intro i j hi hj hij
      simp only [Array.length_toList] at hi hj
      have := hs i j (Nat.zero_le _) hij (by omega)
      rw [ltS, getElem!_pos d' i hi, getElem!_pos d' j hj] at this
      simpa using this
    · simp only [List.length_map, Array.length_toList] at hk
      have := (hH' k hk).1
      refine ⟨g, 0, rfl, hg0, ?_, ?_⟩
      · unfold sortWorld
        simp [Sort.grow]
        omega
      · rw [this, getElem!_pos d' k hk]
        simp
    · exact below_put hg0 hb
end Go.Proofs.YtbfnnlcckpabnaaGreat

/- slices.SortFunc at the walls: what the row holds behind it. -/
namespace Go.Proofs.YtbfnnlcckpabnaaGreat
set_option linter.unusedSimpArgs false
set_option linter.unusedVariables false
open Go.RowKit

set_option maxRecDepth 100000 in
set_option maxHeartbeats 2000000 in
theorem walk_ordered_d (a b : List UInt8 × Int) (w : World) (ha : a.1.length ≤ 140737488355328) (hb : b.1.length ≤ 140737488355328) :
    Calls Tryz.prog 65 #[encEdge a, encEdge b] w fun e w' => e = .returned (.int .i64 (cmpE a b)) ∧ Below w.heap.size w w' ∧ w.drawn ≤ w'.drawn := by
  obtain ⟨at', am⟩ := a
  obtain ⟨bt, bm⟩ := b
  have HF := Lib.hid (fun W => walk_first at' bt W ha hb)
  have HC := Lib.hid (fun W => cmp_Compare_int am bm W)
  have hE : cmpE (at', am) (bt, bm) = if Hy.cmpW at' bt ≠ 0 then Hy.cmpW at' bt else if am < bm then -1 else if bm < am then 1 else 0 := rfl
  rw [hE]
  clear hE ha hb
  generalize Hy.cmpW at' bt = x at *
  generalize (if am < bm then (-1 : Int) else if bm < am then 1 else 0) = y at *
  obtain ⟨z, hz⟩ : ∃ z, z = (if x ≠ 0 then x else y) := ⟨_, rfl⟩
  have HOR := Lib.hid (fun W g => cmp_Or_two W g x y)
  rw [← hz]
  simp only [← hz] at HOR
  clear hz
  unfold encEdge str at *
  go_enter Tryz.func65, Tryz.ntmps65
  go_wp2_with fail
  obtain ⟨W0, hW0⟩ : ∃ W0, ((w.alloc (.cells #[.string ⟨at'.toArray⟩, .int .i64 am] 64)).alloc (.cells #[.string ⟨bt.toArray⟩, .int .i64 bm] 64)) = W0 := ⟨_, rfl⟩
  have h0 : W0.heap[w.heap.size]? = some (.cells #[.string ⟨at'.toArray⟩, .int .i64 am] 64 (0, 0)) := by
    rw [← hW0, heap_alloc_lt _ _ (by simp)]
    exact alloc_heap_new w _
  have h1 : W0.heap[w.heap.size + 1]? = some (.cells #[.string ⟨bt.toArray⟩, .int .i64 bm] 64 (0, 0)) := by
    rw [← hW0]
    have h := alloc_heap_new (w.alloc (.cells #[.string ⟨at'.toArray⟩, .int .i64 am] 64)) (.cells #[.string ⟨bt.toArray⟩, .int .i64 bm] 64)
    rwa [World.size_alloc] at h
  have hB0 : Below w.heap.size w W0 := by rw [← hW0]; exact ((Below.refl _ _).alloc (Nat.le_refl _) _).alloc (by simp) _
  have hs0 : W0.heap.size = w.heap.size + 2 := by rw [← hW0]; simp
  have hdr0 : W0.drawn = w.drawn := by rw [← hW0]; rfl
  have HDR := Lib.hid hdr0
  rw [hW0]
  clear hW0
  have q0 := cell_of_heap h0 0
  have q1 := cell_of_heap h0 1
  have q2 := cell_of_heap h1 0
  have q3 := cell_of_heap h1 1
  simp at q0 q1 q2 q3
  have HB0 := Lib.hid hB0
  clear h0 h1 hB0 hdr0
  go_cut [4] (fun s wx => s = .int .i64 z ∧ Hid (Below w.heap.size w wx) ∧ Hid (w.drawn ≤ wx.drawn))
  case first =>
    go_region_held3 (fun w' => w'.cell? ⟨w.heap.size, 0, none⟩ = some (.string ⟨at'.toArray⟩) ∧ w'.cell? ⟨w.heap.size, 1, none⟩ = some (.int .i64 am) ∧ w'.cell? ⟨w.heap.size + 1, 0, none⟩ = some (.string ⟨bt.toArray⟩) ∧ w'.cell? ⟨w.heap.size + 1, 1, none⟩ = some (.int .i64 bm))
      (first | go_keep | (with_reducible (exact ⟨q0, q1, q2, q3⟩)))
      ((first
        | (go_at_call 56; refine (HF.out _).mono ?_; rintro e w3 ⟨rfl, rfl⟩)
        | (go_at_call 80; refine (HC.out _).mono ?_; rintro e w3 ⟨rfl, rfl⟩)
        | (go_at_call 87; refine (HOR.out _ _ (by go_simp) (by go_simp)).mono ?_; rintro e w3 ⟨rfl, rfl⟩)))
    all_goals go_wp2_with fail
    all_goals go_meet
    case rel => exact ⟨rfl, (HB0.out.alloc HB0.out.size _).drew, show w.drawn ≤ W0.drawn + 1 from by rw [HDR.out]; omega⟩
  case rest =>
    obtain ⟨rfl, HB, HD⟩ := hcut
    go_wp2_with fail
    go_ret
    exact ⟨rfl, HB.out, HD.out⟩

/-- The two cells of a side. -/
def encE (x : SEdge) : List Value := [encW0 x.1, encW1 x.1]

set_option maxRecDepth 100000 in
set_option maxHeartbeats 1000000 in
theorem sortFuncE {base : Nat} {w : World} {v : Value} {D : List (List UInt8 × Int)} (h : w.ownsRow base 64 2 v D.length (flat2 encW0 encW1 D)) (hl : ∀ x ∈ D, x.1.length ≤ 1000) (hn : D.length ≤ 100000) (hb : base ≤ w.heap.size) :
    Calls Tryz.prog 85 #[v, .func (.func 65) #[] #[]] w fun e w' => e = .returned (.tuple #[]) ∧ ∃ L : List (List UInt8 × Int), L.Perm D ∧ L.Pairwise (fun x y => before y x = false) ∧ KeyRow2 base w' v L ∧ Below base w w' := by
  rcases h.2 with ⟨rfl, h0⟩ | ⟨g, cap, cur, rfl, hg0, hg, h1, h2, h3, h4⟩
  · have hD : D = [] := by cases D with | nil => rfl | cons _ _ => simp [flat2] at h0
    subst hD
    refine (AnyF.slices_SortFunc_none (P := Tryz.prog) (ρ := sortE_ren) sortE none 0 _ w).mono ?_
    rintro e w' ⟨rfl, rfl⟩
    exact ⟨rfl, [], List.Perm.refl _, List.Pairwise.nil, ⟨none, 0, rfl, fun k hk => by simp at hk⟩, Below.refl _ _⟩
  · obtain ⟨d, hd⟩ : ∃ d : Array SEdge, d.toList.map (·.1) = D := ⟨(D.attach.map fun x => (⟨x.1, hl x.1 x.2⟩ : SEdge)).toArray, by simp; exact List.attach_map_subtype_val D⟩
    have hds : d.size = D.length := by rw [← hd]; simp
    have hdj : ∀ (j : Nat) (hj : j < d.size), d[j]!.1 = D[j]'(by omega) := fun j hj => by
      subst hd
      simp [hj]
    have hH : Sort.HoldsK encE 2 w g 0 d := fun j hj => by
      rw [Sort.size_flatK] at hj
      refine ⟨?_, free_of_heap hg _⟩
      rw [Sort.get_flatK _ _ _ _ hj]
      have two : ∀ (q c : Nat) (hc : c < 2), j = q * 2 + c → w.cell? ⟨g, 0 + j, none⟩ = some ((encE d[j / 2]!)[j % 2]!) := fun q c hc hjq => by
        have hq : q < D.length := by omega
        have h1 : j / 2 = q := by omega
        have h2 : j % 2 = c := by omega
        rw [h1, h2]
        obtain ⟨f0, f1⟩ := flat2_get encW0 encW1 D q hq
        have e0 := h.cells (g := g) rfl _ _ f0
        have e1 := h.cells (g := g) rfl _ _ f1
        rw [Addr.add_lit] at e0 e1
        have e3 := hdj q (by omega)
        unfold encE
        rw [e3]
        rw [show (0 : Nat) + j = 0 + (q * 2 + c) from by omega]
        rcases Nat.lt_or_ge c 1 with h | h
        · obtain rfl : c = 0 := by omega
          exact e0
        · obtain rfl : c = 1 := by omega
          exact e1
      exact two (j / 2) (j % 2) (by omega) (by omega)
    have hgl : g < w.heap.size := (Array.getElem?_eq_some_iff.1 hg).1
    have hcmp : CmpLays Tryz.prog 65 #[] encE 2 (fun x y : SEdge => cmpE x.1 y.1) g 0 d.size w := fun m os dk _ x y =>
      (walk_ordered_d x.1 y.1 _ (by have := x.2; omega) (by have := y.2; omega)).mono fun e w' hp => ⟨hp.1, grow_of_below hp.2.1 hp.2.2⟩
    have hc := AnyQ.slices_SortFunc (P := Tryz.prog) (ρ := sortE_ren) sortE 2 Tryz.isAgg64 Tryz.sizeOf64 encE (fun _ => rfl) (fun x u hu => by simp [encE] at hu; rcases hu with rfl | rfl <;> rfl) (fun x y : SEdge => cmpE x.1 y.1) swoE 65 #[] g 0 cap d w enters_ordered hcmp hH hgl (by omega)
    rw [hds] at hc
    refine hc.mono ?_
    rintro e w' ⟨rfl, d', n, os, ⟨hp1, _, hp3⟩, hs, rfl⟩
    rw [← hds] at hp3 hs
    have hds' : d'.size = D.length := by omega
    have hperm : d'.toList.Perm d.toList := by
      have e1 : d'.extract 0 d.size = d' := by rw [← hp1]; exact Array.extract_size
      have e2 : d.extract 0 d.size = d := Array.extract_size
      rw [e1, e2] at hp3
      exact hp3
    have hH' : Sort.HoldsK encE 2 (sortWorldK encE 2 w g 0 n d' os) g 0 d' := by
      unfold sortWorldK
      exact Sort.holdsK_grow _ _ _ _ _ _ _ (by simpa [Sort.putRowK] using hgl) (Sort.holdsK_putRowK _ _ _ _ _ d d' (Sort.holdsK_ahead _ _ _ _ _ _ _ hH) (by omega))
    refine ⟨rfl, d'.toList.map (·.1), ?_, ?_, ⟨some ⟨g, 0, none⟩, cap, by simp [hds'], fun k hk => ?_⟩, ?_⟩
    · rw [← hd]; exact hperm.map _
    · rw [List.pairwise_map, List.pairwise_iff_getElem]
      intro i j hi hj hij
      simp only [Array.length_toList] at hi hj
      have := hs i j (Nat.zero_le _) hij (by omega)
      rw [ltE, getElem!_pos d' i hi, getElem!_pos d' j hj] at this
      simpa using this
    · simp only [List.length_map, Array.length_toList] at hk
      have h0 := (hH'.cell hk (by omega : 0 < 2)).1
      have h1 := (hH'.cell hk (by omega : 1 < 2)).1
      rw [getElem!_pos d' k hk] at h0 h1
      refine ⟨g, 0, rfl, hg0, ?_, ?_, ?_⟩
      · unfold sortWorldK
        simp [Sort.grow, Sort.putRowK]
        omega
      · rw [Nat.add_zero] at h0
        rw [h0]
        simp [encE]
      · rw [h1]
        simp [encE]
    · unfold sortWorldK Sort.putRowK
      exact below_put hg0 hb
end Go.Proofs.YtbfnnlcckpabnaaGreat

/- walk.sides, walk.tiles: the keys of a map in order. -/
namespace Go.Proofs.YtbfnnlcckpabnaaGreat
set_option linter.unusedSimpArgs false
set_option linter.unusedVariables false
open Go.RowKit

set_option maxRecDepth 100000 in
set_option maxHeartbeats 1000000 in
theorem collectE {w : World} {g : FuncId} {lb : Array Value} {ks : List (List UInt8 × Int)} {Own : Nat → Prop} (eg : ∀ args w, (callFunc g args).run Tryz.prog w = .ok (.enter g args) w)
    (hseq : IterL Tryz.prog g lb (fun k => #[encEdge k]) ks Own w) (hOwn : ∀ k, Own k → k < w.heap.size) (hl : ks.length ≤ 1000) :
    Calls Tryz.prog 84 #[.func (.func g) #[] lb] w fun e w' => ∃ v d, e = .returned v ∧ d.Perm ks ∧ w'.ownsRow w.heap.size 64 2 v d.length (flat2 encW0 encW1 d) ∧ Below w.heap.size w w' := by
  have HC := Lib.hid (appendSeqE eg hseq hOwn hl)
  clear hseq hOwn eg
  go_enter Tryz.func84, Tryz.ntmps84
  go_wp2_with fail
  refine HC.out.mono ?_
  rintro e w1 ⟨v, d, rfl, h1, h2, h3⟩
  have H2 := Lib.hid h2; have H3 := Lib.hid h3; have H1 := Lib.hid h1
  clear h2 h3 h1
  go_wp2_with fail
  go_ret
  exact ⟨_, d, rfl, H1.out, H2.out, H3.out⟩

set_option maxRecDepth 100000 in
set_option maxHeartbeats 1000000 in
theorem sortedFuncE {w : World} {g : FuncId} {lb : Array Value} {ks : List (List UInt8 × Int)} {Own : Nat → Prop} (eg : ∀ args w, (callFunc g args).run Tryz.prog w = .ok (.enter g args) w)
    (hseq : IterL Tryz.prog g lb (fun k => #[encEdge k]) ks Own w) (hOwn : ∀ k, Own k → k < w.heap.size) (hl : ks.length ≤ 1000) (hk : ∀ x ∈ ks, x.1.length ≤ 1000) :
    Calls Tryz.prog 63 #[.func (.func g) #[] lb, .func (.func 65) #[] #[]] w fun e w' => ∃ v L, e = .returned v ∧ L.Perm ks ∧ L.Pairwise (fun x y => before y x = false) ∧ KeyRow2 w.heap.size w' v L ∧ Below w.heap.size w w' := by
  have HC := Lib.hid (collectE eg hseq hOwn hl)
  clear hseq hOwn eg
  go_enter Tryz.func63, Tryz.ntmps63
  go_wp2_with fail
  refine HC.out.mono ?_
  rintro e w1 ⟨v, d, rfl, h1, h2, h3⟩
  have hs := sortFuncE (base := w.heap.size) h2 (fun x hx => hk x (h1.mem_iff.1 hx)) (by have := h1.length_eq; omega) h3.size
  have HS := Lib.hid hs; have H3 := Lib.hid h3; have H1 := Lib.hid h1
  clear h2 h3 h1 hs hk hl HC
  go_wp2_with fail
  refine HS.out.mono ?_
  rintro e w2 ⟨rfl, L, p1, p2, p3, p4⟩
  have P1 := Lib.hid (p1.trans H1.out); have P2 := Lib.hid p2; have P3 := Lib.hid p3; have P4 := Lib.hid (H3.out.trans p4)
  clear p1 p2 p3 p4 HS
  go_wp2_with fail
  go_ret
  exact ⟨_, L, rfl, P1.out, P2.out, P3.out, P4.out⟩

set_option maxRecDepth 100000 in
set_option maxHeartbeats 1000000 in
theorem mapsKeysE (wb : Nat) (w : World) :
    Calls Tryz.prog 64 #[.map (some wb)] w fun e w' => e = .returned (.func (.func 86) #[] #[.pointer (some ⟨w.heap.size, 0, none⟩)]) ∧ Below w.heap.size w w' ∧ w.heap.size < w'.heap.size ∧ w'.cell? ⟨w.heap.size, 0, none⟩ = some (.map (some wb)) := by
  go_enter Tryz.func64, Tryz.ntmps64
  go_wp2_with fail
  go_ret
  exact ⟨rfl, (Below.refl _ _).alloc (Nat.le_refl _) _, by simp, cell_of_heap (World.alloc_heap_new w (.cells #[.map (some wb)] 54)) 0⟩

theorem enters_keysE : ∀ args w, (callFunc 86 args).run Tryz.prog w = .ok (.enter 86 args) w := enters_of Tryz.func86 (by kernel_rfl) rfl

set_option maxRecDepth 100000 in
set_option maxHeartbeats 1000000 in
theorem walk_sides {w : World} {o : Hy.Ord} {mb wb tb : Nat} {W : Walls} {T : Things} (h : MRep w o mb wb tb W T) (hk : (W.map (·.1)).Nodup) (hn : W.length ≤ 1000) (hl : ∀ p ∈ W, p.1.1.length ≤ 1000) :
    Calls Tryz.prog 34 #[.pointer (some ⟨mb, 0, none⟩)] w fun e w' => ∃ v L, e = .returned v ∧ L.Perm (W.map (·.1)) ∧ L.Pairwise (fun x y => before y x = false) ∧ KeyRow2 w.heap.size w' v L ∧ Below w.heap.size w w' := by
  have HGROW := Lib.hid (fun W' (hb : Below w.heap.size w W') => h.grow hb)
  have cw : w.cell? ⟨mb, 4, none⟩ = some (.map (some wb)) := cell_of_heap h.cells 4
  have hwl := h.walls.lt
  clear h
  go_enter Tryz.func34, Tryz.ntmps34
  go_wp2_with fail
  refine (mapsKeysE _ _).mono ?_
  rintro e w1 ⟨rfl, hB1, hs1, hc1⟩
  have hM1 := HGROW.out _ hB1
  have hit := keys_iterE (w := w1) (wb := wb) (kv := W) hM1.walls hk w.heap.size hc1
  have hsf := sortedFuncE enters_keysE hit (fun k hkk => by rcases hkk with h | h <;> omega) (by simpa using hn) (fun x hx => by
    obtain ⟨p, hp, rfl⟩ := List.mem_map.1 hx
    exact hl p hp)
  have HSF := Lib.hid hsf; have HB1 := Lib.hid hB1; have HS1 := Lib.hid hs1
  clear hit hsf hB1 hc1 hM1 hs1
  go_wp2_with fail
  refine HSF.out.mono ?_
  rintro e w2 ⟨v, L, rfl, p1, p2, p3, p4⟩
  have P1 := Lib.hid p1; have P2 := Lib.hid p2; have P4 := Lib.hid (HB1.out.trans (p4.mono HB1.out.size))
  have hp3 : KeyRow2 w.heap.size w2 v L := by
    obtain ⟨p, cap, e1, e2⟩ := p3
    refine ⟨p, cap, e1, fun k hk => ?_⟩
    obtain ⟨g, off, q1, q2, q3⟩ := e2 k hk
    exact ⟨g, off, q1, by have := HS1.out; omega, q3⟩
  have P3 := Lib.hid hp3
  clear p1 p2 p3 p4 hp3 HSF
  go_wp2_with fail
  go_ret
  exact ⟨_, L, rfl, P1.out, P2.out, P3.out, P4.out⟩
end Go.Proofs.YtbfnnlcckpabnaaGreat

/- walk.tiles: the keys of the map of things in order. -/
namespace Go.Proofs.YtbfnnlcckpabnaaGreat
set_option linter.unusedSimpArgs false
set_option linter.unusedVariables false
open Go.RowKit

set_option maxRecDepth 100000 in
set_option maxHeartbeats 1000000 in
theorem collectS {w : World} {g : FuncId} {lb : Array Value} {ks : List (List UInt8)} {Own : Nat → Prop} (eg : ∀ args w, (callFunc g args).run Tryz.prog w = .ok (.enter g args) w)
    (hseq : IterL Tryz.prog g lb (fun k => #[str k]) ks Own w) (hOwn : ∀ k, Own k → k < w.heap.size) (hl : ks.length ≤ 1000) :
    Calls Tryz.prog 88 #[.func (.func g) #[] lb] w fun e w' => ∃ (v : Value) (d : List (List UInt8)), e = .returned v ∧ d.Perm ks ∧ w'.ownsRow w.heap.size 9 1 v d.length (d.map str) ∧ Below w.heap.size w w' := by
  have HC := Lib.hid (appendSeqS eg hseq hOwn hl)
  clear hseq hOwn eg
  go_enter Tryz.func88, Tryz.ntmps88
  go_wp2_with fail
  refine HC.out.mono ?_
  rintro e w1 ⟨v, d, rfl, h1, h2, h3⟩
  have H2 := Lib.hid h2; have H3 := Lib.hid h3; have H1 := Lib.hid h1
  clear h2 h3 h1
  go_wp2_with fail
  go_ret
  exact ⟨_, d, rfl, H1.out, H2.out, H3.out⟩

set_option maxRecDepth 100000 in
set_option maxHeartbeats 1000000 in
theorem sortedFuncS {w : World} {g : FuncId} {lb : Array Value} {ks : List (List UInt8)} {Own : Nat → Prop} (eg : ∀ args w, (callFunc g args).run Tryz.prog w = .ok (.enter g args) w)
    (hseq : IterL Tryz.prog g lb (fun k => #[str k]) ks Own w) (hOwn : ∀ k, Own k → k < w.heap.size) (hl : ks.length ≤ 1000) (hk : ∀ x ∈ ks, x.length ≤ 1000) :
    Calls Tryz.prog 66 #[.func (.func g) #[] lb, .func (.func 56) #[] #[]] w fun e w' => ∃ (v : Value) (L : List (List UInt8)), e = .returned v ∧ L.Perm ks ∧ L.Pairwise (fun x y => aheadW y x = false) ∧ KeyRow1 w.heap.size w' v L ∧ Below w.heap.size w w' := by
  have HC := Lib.hid (collectS eg hseq hOwn hl)
  clear hseq hOwn eg
  go_enter Tryz.func66, Tryz.ntmps66
  go_wp2_with fail
  refine HC.out.mono ?_
  rintro e w1 ⟨v, d, rfl, h1, h2, h3⟩
  have hs := sortFuncS (base := w.heap.size) h2 (fun x hx => hk x (h1.mem_iff.1 hx)) (by have := h1.length_eq; omega) h3.size
  have HS := Lib.hid hs; have H3 := Lib.hid h3; have H1 := Lib.hid h1
  clear h2 h3 h1 hs hk hl HC
  go_wp2_with fail
  refine HS.out.mono ?_
  rintro e w2 ⟨rfl, L, p1, p2, p3, p4⟩
  have P1 := Lib.hid (p1.trans H1.out); have P2 := Lib.hid p2; have P3 := Lib.hid p3; have P4 := Lib.hid (H3.out.trans p4)
  clear p1 p2 p3 p4 HS
  go_wp2_with fail
  go_ret
  exact ⟨_, L, rfl, P1.out, P2.out, P3.out, P4.out⟩

set_option maxRecDepth 100000 in
set_option maxHeartbeats 1000000 in
theorem mapsKeysS (wb : Nat) (w : World) :
    Calls Tryz.prog 67 #[.map (some wb)] w fun e w' => e = .returned (.func (.func 90) #[] #[.pointer (some ⟨w.heap.size, 0, none⟩)]) ∧ Below w.heap.size w w' ∧ w.heap.size < w'.heap.size ∧ w'.cell? ⟨w.heap.size, 0, none⟩ = some (.map (some wb)) := by
  go_enter Tryz.func67, Tryz.ntmps67
  go_wp2_with fail
  go_ret
  exact ⟨rfl, (Below.refl _ _).alloc (Nat.le_refl _) _, by simp, cell_of_heap (World.alloc_heap_new w (.cells #[.map (some wb)] 55)) 0⟩

theorem enters_keysS : ∀ args w, (callFunc 90 args).run Tryz.prog w = .ok (.enter 90 args) w := enters_of Tryz.func90 (by kernel_rfl) rfl

set_option maxRecDepth 100000 in
set_option maxHeartbeats 1000000 in
theorem walk_tiles {w : World} {o : Hy.Ord} {mb wb tb : Nat} {W : Walls} {T : Things} (h : MRep w o mb wb tb W T) (hk : (T.map (·.1)).Nodup) (hn : T.length ≤ 1000) (hl : ∀ p ∈ T, p.1.length ≤ 1000) :
    Calls Tryz.prog 35 #[.pointer (some ⟨mb, 0, none⟩)] w fun e w' => ∃ (v : Value) (L : List (List UInt8)), e = .returned v ∧ L.Perm (T.map (·.1)) ∧ L.Pairwise (fun x y => aheadW y x = false) ∧ KeyRow1 w.heap.size w' v L ∧ Below w.heap.size w w' := by
  have HGROW := Lib.hid (fun W' (hb : Below w.heap.size w W') => h.grow hb)
  have cw : w.cell? ⟨mb, 5, none⟩ = some (.map (some tb)) := cell_of_heap h.cells 5
  have hwl := h.things.lt
  clear h
  go_enter Tryz.func35, Tryz.ntmps35
  go_wp2_with fail
  refine (mapsKeysS _ _).mono ?_
  rintro e w1 ⟨rfl, hB1, hs1, hc1⟩
  have hM1 := HGROW.out _ hB1
  have hit := keys_iterS (w := w1) (wb := tb) (kv := T) hM1.things hk w.heap.size hc1
  have hsf := sortedFuncS enters_keysS hit (fun k hkk => by rcases hkk with h | h <;> omega) (by simpa using hn) (fun x hx => by
    obtain ⟨p, hp, rfl⟩ := List.mem_map.1 hx
    exact hl p hp)
  have HSF := Lib.hid hsf; have HB1 := Lib.hid hB1; have HS1 := Lib.hid hs1
  clear hit hsf hB1 hc1 hM1 hs1
  go_wp2_with fail
  refine HSF.out.mono ?_
  rintro e w2 ⟨v, L, rfl, p1, p2, p3, p4⟩
  have P1 := Lib.hid p1; have P2 := Lib.hid p2; have P4 := Lib.hid (HB1.out.trans (p4.mono HB1.out.size))
  have hp3 : KeyRow1 w.heap.size w2 v L := by
    obtain ⟨p, cap, e1, e2⟩ := p3
    refine ⟨p, cap, e1, fun k hk => ?_⟩
    obtain ⟨g, off, q1, q2, q3⟩ := e2 k hk
    exact ⟨g, off, q1, by have := HS1.out; omega, q3⟩
  have P3 := Lib.hid hp3
  clear p1 p2 p3 p4 hp3 HSF
  go_wp2_with fail
  go_ret
  exact ⟨_, L, rfl, P1.out, P2.out, P3.out, P4.out⟩
end Go.Proofs.YtbfnnlcckpabnaaGreat
