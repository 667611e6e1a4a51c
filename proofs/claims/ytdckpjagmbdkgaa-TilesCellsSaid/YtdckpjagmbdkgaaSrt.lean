import Derived.Shelf.Sort.Plain
import Derived.Shelf.Slices.In.SortNone
import Derived.Test.YtdckpjagmbdkgaaProg
import Derived.Test.YtdckpjagmbdkgaaP1
import Derived.OrdersIn
import Derived.TacticsIn
import Derived.RangeFuncCalls
import Derived.Test.YtdckpjagmbdkgaaLds

/- slices.Sort at texts: the shelf's laying in plain words (in the form of lay-plain.mjs). -/
namespace Go.Proofs.Ytdckpjagmbdkgaa
set_option linter.unusedSimpArgs false
set_option linter.unusedVariables false
open Go.Shelf
def sortT_ren : Go.Shelf.Ren := ⟨fun | 125 => 53 | 128 => 86 | 129 => 87 | 190 => 30 | 258 => 52 | 302 => 77 | 303 => 78 | 304 => 79 | 305 => 80 | 306 => 81 | 307 => 82 | 308 => 83 | 309 => 84 | 310 => 85 | 329 => 95 | 330 => 96 | 333 => 94 | 334 => 97 | 335 => 98 | 336 => 99 | 344 => 103 | n => n, fun | 0 => 0 | 3 => 3 | 4 => 4 | 5 => 5 | 9 => 9 | 31 => 26 | 46 => 107 | 51 => 138 | 53 => 30 | 131 => 135 | 182 => 129 | 183 => 130 | 218 => 151 | 222 => 155 | 228 => 160 | 229 => 161 | n => n, fun | n => n⟩
theorem sortT : Go.Proofs.Lays.n190 Try.prog sortT_ren := {
  mixed := by kernel_rfl
  f125 := Try.func53.trans (congrArg some (by kernel_rfl))
  f128 := Try.func86.trans (congrArg some (by kernel_rfl))
  f129 := Try.func87.trans (congrArg some (by kernel_rfl))
  f190 := Try.func30.trans (congrArg some (by kernel_rfl))
  f258 := Try.func52.trans (congrArg some (by kernel_rfl))
  f302 := Try.func77.trans (congrArg some (by kernel_rfl))
  f303 := Try.func78.trans (congrArg some (by kernel_rfl))
  f304 := Try.func79.trans (congrArg some (by kernel_rfl))
  f305 := Try.func80.trans (congrArg some (by kernel_rfl))
  f306 := Try.func81.trans (congrArg some (by kernel_rfl))
  f307 := Try.func82.trans (congrArg some (by kernel_rfl))
  f308 := Try.func83.trans (congrArg some (by kernel_rfl))
  f309 := Try.func84.trans (congrArg some (by kernel_rfl))
  f310 := Try.func85.trans (congrArg some (by kernel_rfl))
  f329 := Try.func95.trans (congrArg some (by kernel_rfl))
  f330 := Try.func96.trans (congrArg some (by kernel_rfl))
  f333 := Try.func94.trans (congrArg some (by kernel_rfl))
  f334 := Try.func97.trans (congrArg some (by kernel_rfl))
  f335 := Try.func98.trans (congrArg some (by kernel_rfl))
  f336 := Try.func99.trans (congrArg some (by kernel_rfl))
  f344 := Try.func103.trans (congrArg some (by kernel_rfl))
  t0 := Try.underlying0
  a0 := Try.isAgg0
  z0 := Try.sizeOf0
  v0 := Try.zeroValue0
  t3 := Try.underlying3
  a3 := Try.isAgg3
  z3 := Try.sizeOf3
  v3 := Try.zeroValue3
  t4 := Try.underlying4
  a4 := Try.isAgg4
  z4 := Try.sizeOf4
  v4 := Try.zeroValue4
  t5 := Try.underlying5
  a5 := Try.isAgg5
  z5 := Try.sizeOf5
  v5 := Try.zeroValue5
  t9 := Try.underlying9
  a9 := Try.isAgg9
  z9 := Try.sizeOf9
  v9 := Try.zeroValue9
  t31 := Try.underlying26
  a31 := Try.isAgg26
  z31 := Try.sizeOf26
  v31 := Try.zeroValue26
  t46 := Try.underlying107
  a46 := Try.isAgg107
  z46 := Try.sizeOf107
  v46 := Try.zeroValue107
  t51 := Try.underlying138
  a51 := Try.isAgg138
  z51 := Try.sizeOf138
  v51 := Try.zeroValue138
  t53 := Try.underlying30
  a53 := Try.isAgg30
  z53 := Try.sizeOf30
  v53 := Try.zeroValue30
  t131 := Try.underlying135
  a131 := Try.isAgg135
  z131 := Try.sizeOf135
  v131 := Try.zeroValue135
  t182 := Try.underlying129
  a182 := Try.isAgg129
  z182 := Try.sizeOf129
  v182 := Try.zeroValue129
  t183 := Try.underlying130
  a183 := Try.isAgg130
  z183 := Try.sizeOf130
  v183 := Try.zeroValue130
  t218 := Try.underlying151
  a218 := Try.isAgg151
  z218 := Try.sizeOf151
  v218 := Try.zeroValue151
  t222 := Try.underlying155
  a222 := Try.isAgg155
  z222 := Try.sizeOf155
  v222 := Try.zeroValue155
  t228 := Try.underlying160
  a228 := Try.isAgg160
  z228 := Try.sizeOf160
  v228 := Try.zeroValue160
  t229 := Try.underlying161
  a229 := Try.isAgg161
  z229 := Try.sizeOf161
  v229 := Try.zeroValue161 }
end Go.Proofs.Ytdckpjagmbdkgaa

/- slices.Sort at texts: what the row holds behind it. -/
namespace Go.Proofs.Ytdckpjagmbdkgaa
set_option linter.unusedSimpArgs false
set_option linter.unusedVariables false
open Go.RowKit

theorem less_lt : ∀ {a b : List UInt8}, Hy.less a b = true ↔ a < b
  | _, [] => by simp [Hy.less]
  | [], b :: y => by simp [Hy.less]
  | a :: x, b :: y => by
    rw [List.cons_lt_cons_iff, ← less_lt (a := x) (b := y)]
    simp [Hy.less]

theorem row_of_heap {w w' : World} {g off n cap : Nat} {xs ys : List Value} (h : QRow w g 1 (.slice (some ⟨g, off, none⟩) n cap) n xs) (hl : ys.length = n) (h1 : ∀ j u, ys[j]? = some u → w'.cell? ⟨g, off + j, none⟩ = some u)
    (h2 : ∀ j, n ≤ j → w'.cell? ⟨g, off + j, none⟩ = w.cell? ⟨g, off + j, none⟩) (h3 : ∀ j, w'.frozen? ⟨g, off + j, none⟩ = w.frozen? ⟨g, off + j, none⟩) (hs : w.heap.size ≤ w'.heap.size) : QRow w' g 1 (.slice (some ⟨g, off, none⟩) n cap) n ys := by
  obtain ⟨off', cap', e, k2, k3, k4, k5, k6, k7⟩ := h
  simp only [Value.slice.injEq, Option.some.injEq, Addr.mk.injEq, true_and, and_true] at e
  obtain ⟨rfl, rfl⟩ := e
  refine ⟨off, cap, rfl, k2, k3, by omega, h1, fun j hj => ⟨?_, by rw [h3]; exact (k6 j hj).2⟩, by omega⟩
  rcases Nat.lt_or_ge j n with hjn | hjn
  · rw [h1 j (ys[j]'(by omega)) (List.getElem?_eq_getElem (by omega))]; rfl
  · rw [h2 j hjn]; exact (k6 j hj).1

def SortPost (w : World) (v : Value) (L : List (List UInt8)) (e : Ending) (w' : World) : Prop :=
  e = .returned (.tuple #[]) ∧ ∃ L' : List (List UInt8), L'.Perm L ∧ L'.Pairwise (fun a b => Hy.less b a = false) ∧ GQ w' v (L'.map str) ∧ Only (fun k => v.ownBlock = some k ∨ w.heap.size ≤ k) w w'

set_option maxRecDepth 100000 in
theorem sort_words {w : World} {v : Value} {L : List (List UInt8)} (h : GQ w v (L.map str)) (hn : L.length ≤ 1000000000) : Calls Try.prog 30 #[v] w (SortPost w v L) := by
  rcases h with ⟨rfl, h0⟩ | ⟨g, hq⟩
  · have hL : L = [] := by simpa using h0
    subst hL
    refine (Any.slices_Sort_string_none (P := Try.prog) (ρ := sortT_ren) sortT none 0 w).mono ?_
    rintro e w' ⟨rfl, rfl⟩
    exact ⟨rfl, [], List.Perm.refl _, List.Pairwise.nil, .inl ⟨rfl, rfl⟩, Only.refl _ _⟩
  · rw [List.length_map] at hq
    have hq0 := hq
    obtain ⟨off, cap, rfl, k2, k3, k4, k5, k6, k7⟩ := hq
    have hH : Sort.Holds encStr w g off L.toArray := fun j hj => by
      have hj' : j < L.length := by simpa using hj
      refine ⟨?_, (k6 j (by omega)).2⟩
      rw [k5 j (str L[j]) (by simp [hj'])]
      rw [getElem!_pos L.toArray j hj]
      simp only [List.getElem_toArray]
      rfl
    refine (Any.slices_Sort_string (P := Try.prog) (ρ := sortT_ren) sortT g off cap L w hH k7 (by omega)).mono ?_
    rintro e w' ⟨rfl, n, os, rfl⟩
    obtain ⟨L', hL'⟩ : ∃ L', L' = L.mergeSort fun x y => decide (x ≤ y) := ⟨_, rfl⟩
    have hp : L'.Perm L := by rw [hL']; exact List.mergeSort_perm _ _
    have hlen : L'.length = L.length := hp.length_eq
    have hs : L'.Pairwise (fun a b => Hy.less b a = false) := by
      have := List.pairwise_mergeSort (le := fun x y : List UInt8 => decide (x ≤ y)) (fun a b c h1 h2 => by simp only [decide_eq_true_eq] at *; exact List.le_trans h1 h2) (fun a b => by simpa using List.le_total a b) L
      rw [← hL'] at this
      refine this.imp (fun {a b} hab => ?_)
      simp only [decide_eq_true_eq] at hab
      cases h : Hy.less b a with
      | false => rfl
      | true => exact absurd (less_lt.1 h) (List.not_lt.2 hab)
    rw [← hL']
    refine ⟨rfl, L', hp, hs, .inr ⟨g, ?_⟩, ?_⟩
    · rw [List.length_map, hlen]
      have hH' : Sort.Holds encStr (Sort.putRow encStr (Sort.ahead w n) g off L'.toArray) g off L'.toArray := Sort.holds_putRow _ _ _ _ L.toArray L'.toArray (Sort.holds_ahead _ _ _ _ _ _ hH) (by simp [hlen])
      refine row_of_heap hq0 (by simp [hlen]) (fun j u hj => ?_) (fun j hj => ?_) (fun j => ?_) (by simp [Sort.grow])
      · rw [Sort.cell?_grow _ _ _ (by simpa using k7)]
        rw [List.getElem?_map] at hj
        cases hlj : L'[j]? with
        | none => rw [hlj] at hj; cases hj
        | some x =>
          rw [hlj] at hj
          obtain ⟨hjl, hx⟩ := List.getElem?_eq_some_iff.1 hlj
          rw [(hH' j (by simpa using hjl)).1, getElem!_pos L'.toArray j (by simpa using hjl)]
          simp only [List.getElem_toArray, hx]
          exact hj
      · rw [Sort.cell?_grow _ _ _ (by simpa using k7), Sort.cell?_putRow_other _ _ _ _ _ _ (.inr (.inr (by simp [hlen]; omega)))]
        rfl
      · rw [Sort.frozen?_grow _ _ _ (by simpa using k7), Sort.frozen?_putRow]
        rfl
    · refine ⟨rfl, rfl, rfl, by simp [Sort.grow], fun k hk => ?_⟩
      have hk1 : g ≠ k := fun e => hk (.inl (by rw [e]; rfl))
      have hk2 : k < w.heap.size := by
        rcases Nat.lt_or_ge k w.heap.size with h | h
        · exact h
        · exact absurd (.inr h) hk
      rw [Sort.heap_grow_old _ _ (by simpa using hk2)]
      simp [Sort.putRow, Sort.mapBlock, Sort.ahead, Array.getElem?_modify, hk1]
end Go.Proofs.Ytdckpjagmbdkgaa

/- In a round of a range over a function: a region that draws its order, walked as out of it. Over any program. -/
namespace Go.Proofs.Ytdckpjagmbdkgaa
set_option linter.unusedSimpArgs false
set_option linter.unusedVariables false

section
variable {P : Program} {ops : Array Oper} {md : Region.Mode} {C : World → Prop}

/-- An operation that is no defer statement. -/
theorem opIn_round {o : Oper} {a : Act} {w : World} {K : Act → World → Prop} {Q : Exit → Act → World → Prop} (l : Nat) (hd : ∀ c, o.op ≠ .defer c) (h : o.wp P a w K Q) : o.wpIn (Fence.wide.inRound l) 0 P a w K Q := by
  unfold Oper.wp at h
  unfold Oper.wpIn
  refine ⟨fun f _ => trivial, ?_⟩
  rw [Fence.inRound_round, Oper.semAt_some l _ o hd]
  generalize (execOp a.eval o).run P w = r at *
  cases r with
  | ok n w' =>
    cases n <;> simp only [Oper.upon] at h
    case value => exact h
    case skip => exact h
    case defer => exact h
    case enter f args => exact ⟨fun h => by simp [Fence.wide] at h, CallsIn.inRound l (callsIn_wide.2 h)⟩
    case row r args =>
      exact ⟨fun h => by simp [Fence.wide] at h, fun c cs _ => by
        obtain ⟨v, w2, h1, h2⟩ := h c cs
        exact ⟨v, w2, h1, stepsIn_wide.2 h2⟩⟩
  | halt x w' =>
    cases x <;> simp only [Oper.upon] at h
    case panic => exact h

theorem anyIn_round {Q : Exit → Act → World → Prop} (l : Nat) (hQ : ¬ LetsOut Q) (hd : ∀ (j : Nat) (o : Oper), ops[j]? = some o → ∀ c, o.op ≠ .defer c) : ∀ (fuel : Nat) (listed : Array Bool) (a : Act) (w : World),
    wpAny P md ops Q fuel listed a w → wpAnyIn (Fence.wide.inRound l) 0 P md ops Q fuel listed a w
  | 0, listed, a, w, h => h
  | fuel + 1, listed, a, w, h => by
    refine ⟨h.1, fun i hi => ?_⟩
    have h1 := h.2 i hi
    unfold wpOp at h1
    unfold wpOpIn
    cases ho : ops[i]? with
    | none => simp only [ho] at h1 ⊢; exact anyIn_round l hQ hd fuel _ _ _ h1
    | some o =>
      simp only [ho] at h1 ⊢
      split
      · rename_i hw
        simp only [hw, if_true] at h1
        rcases h1 with h1 | ⟨_, h1⟩
        · exact opIn_round l (hd i o ho) (Oper.wp_mono (fun a w h => anyIn_round l hQ hd fuel _ _ _ h) h1)
        · exact absurd h1 hQ
      · rename_i hw
        simp only [hw] at h1
        exact ⟨fun f _ => trivial, anyIn_round l hQ hd fuel _ _ _ h1⟩

/-- Is it no defer statement? -/
def noDefer (ops : Array Oper) : Bool := ops.toList.all fun o => match o.op with | .defer _ => false | _ => true
theorem noDefer_spec (h : noDefer ops = true) : ∀ (j : Nat) (o : Oper), ops[j]? = some o → ∀ c, o.op ≠ .defer c := by
  intro j o ho c hc
  have := List.all_eq_true.1 h o (by
    obtain ⟨h1, h2⟩ := Array.getElem?_eq_some_iff.1 ho
    rw [← h2]; simp)
  rw [hc] at this
  cases this

/-- **Loads ahead.** -/
theorem wp_any_loads {Q : Exit → Act → World → Prop} {a : Act} {w : World} {l : List Oper} (m n : Nat) (C : World → Prop) (hC : C w.drew) (hB : loadsB .any l.toArray m n = true)
    (h : wpQuiet P l.toArray C (fun a' => wpG P l.toArray C (fun a'' w'' => wpList P l.toArray Q (l.drop n) a'' w'') ((l.take n).drop m) a' w.drew) (l.take m) a) : wpAny P .any l.toArray Q l.toArray.size (Array.replicate l.toArray.size false) a { w with drawn := w.drawn + 1 } := by
  simp only [loadsB, Bool.and_eq_true, decide_eq_true_eq] at hB
  obtain ⟨⟨⟨⟨⟨⟨hsel, hn⟩, hmn⟩, hs⟩, hc⟩, hlex⟩, hpure⟩ := hB
  have hn' : n < l.length := by simpa using hn
  have htl : (l.take m).length = m := by simp; omega
  have hml : ((l.take n).drop m).length = n - m := by simp; omega
  have hdl : (l.drop n).length = l.toArray.size - n := by simp
  have inv0 : HeadInv .any l.toArray n (Array.replicate l.toArray.size false) :=
    ⟨by simp, fun j oj _ hl => (by rw [getD_replicate_false] at hl; cases hl), fun t _ ht => getD_in (by simpa using ht) (getD_replicate_false _ _)⟩
  have H := wpAnyG_lex (P := P) (C := C) (md := .any) (ops := l.toArray) (n := n) (m := m) (mid := (l.take n).drop m) (Lq := fun a'' w'' => wpList P l.toArray Q (l.drop n) a'' w'') hsel hs hc hn (by omega) (fun j hj => by
    rw [hml] at hj
    rw [List.getElem?_drop, List.getElem?_take_of_lt (by omega)]
    simp) (l.take m) 0 _ a w.drew (fun j hj => by
    have hj' : j < m := by rw [htl] at hj; exact hj
    simp [hj']) (by omega) (fun o ho => by
    have := List.all_eq_true.1 hpure o (by simpa using ho)
    exact this) inv0 (by rw [htl, hml, show n - m + (l.toArray.size - n) = l.toArray.size - m by omega]; exact hlex) hC h
  have := wpAny_of_G (Q' := Q) (g := l.toArray.size - n) (fun listed a' w' _ hL => by
    have := wpAny_of_seq (md := .any) (Q' := Q) (l.drop n) n listed a' w' (fun j => by simp [List.getElem?_drop]) (by rw [hdl]; exact hL.1) hL.2
    rwa [hdl] at this) _ _ _ _ hC H
  rw [htl, hml, show m + (n - m) + (l.toArray.size - n) = l.toArray.size by omega] at this
  exact this

/-- **Loads ahead, in a round.** -/
theorem wpIn_region_loads {id : Nat} {Q : Exit → Act → World → Prop} {a : Act} {w : World} {l : List Oper} {r : Nat} (m n : Nat) (C : World → Prop) (hC : C w.drew) (hm : P.follows .mixedOrders = true) (hB : loadsB .any l.toArray m n = true) (hd : noDefer l.toArray = true) (hQ : ¬ LetsOut Q)
    (h : wpQuiet P l.toArray C (fun a' => wpG P l.toArray C (fun a'' w'' => wpList P l.toArray Q (l.drop n) a'' w'') ((l.take n).drop m) a' w.drew) (l.take m) a) : (Code.region id l.toArray true).wpIn (Fence.wide.inRound r) 0 P Q a w :=
  wpIn_region_any hm (anyIn_round r hQ (noDefer_spec hd) _ _ _ _ (wp_any_loads m n C hC hB h))
end
end Go.Proofs.Ytdckpjagmbdkgaa
