/- Package cover: the search for lists, and its leaves. -/
import Derived.Test.YtfdklmpkienfhaaGreatK17
import Derived.Defers
import Derived.RangeFuncLeaves
import Derived.RangeFuncRecord

/- Package cover: all actions, as an iterator. -/
namespace Go.Proofs.YtfdklmpkienfhaaGreat
set_option linter.unusedSimpArgs false
set_option linter.unusedVariables false
open Go.RowKit
open Cov (backsL triA)

open Classical in
/-- The actions with given lists for the first letters; all of them. -/
noncomputable def actC (o : Hy.Ord) (a b c : List Int) : List (Nat → List Int) := if Whole o (triA a b c) then [triA a b c] else []
noncomputable def actB (o : Hy.Ord) (n : Nat) (a b : List Int) : List (Nat → List Int) := (backsL n).flatMap (actC o a b)
noncomputable def actA (o : Hy.Ord) (n : Nat) (a : List Int) : List (Nat → List Int) := (backsL n).flatMap (actB o n a)
noncomputable def actsL (o : Hy.Ord) (n : Nat) : List (Nat → List Int) := (backsL n).flatMap (actA o n)

/-- What a round is handed: an action in memory that is nobody's. -/
def ActS (o : Hy.Ord) (n : Nat) (i : Nat) (C : Nat → Prop) (args : Array Value) (W : World) : Prop :=
  ∃ V A, args = #[actV V] ∧ (actsL o n)[i]? = some A ∧ Shaped A ∧ (A 0).length = n ∧ ∀ x, x < 3 → ∃ g, QRow W g 1 (V x) n (nums .i64 (A x)) ∧ ¬ C g

/-- What holds ahead of a round of one of the loops: what the caller's says, that what is read lies as it lay, and where the caller's blocks lie. -/
def LoopI (J : Nat → (Nat → Prop) → World → Prop) (X C0 : Nat → Prop) (N0 : Nat) (w0 : World) (cnt : Nat → Nat) (i : Nat) (C : Nat → Prop) (W : World) : Prop :=
  J (cnt i) C W ∧ (∀ k, X k → ¬ C k ∧ k < w0.heap.size ∧ W.heap[k]? = w0.heap[k]?) ∧ (∀ k, C k → Mine C0 N0 k ∧ k < W.heap.size)
def LoopX (Jx : Nat → (Nat → Prop) → World → Prop) (C0 : Nat → Prop) (N0 N : Nat) (c : Code) (i : Nat) (C : Nat → Prop) (W : World) : Prop := c = .ret ∧ (∃ i', i' ≤ N ∧ Jx i' C W) ∧ (∀ k, C k → Mine C0 N0 k ∧ k < W.heap.size)
theorem LoopI.stable {J : Nat → (Nat → Prop) → World → Prop} {X C0 OwnJ Own : Nat → Prop} {N0 : Nat} {w0 : World} {cnt : Nat → Nat} (hJ : Stable OwnJ J) (h1 : ∀ k, OwnJ k → Own k) (h2 : ∀ k, X k → Own k) : Stable Own (LoopI J X C0 N0 w0 cnt) := by
  rintro i C W W' ⟨hj, hx, hf⟩ hs hsz
  exact ⟨hJ _ C W W' hj (fun k hk => hs k (hk.imp id (h1 k))) hsz, fun k hk => ⟨(hx k hk).1, (hx k hk).2.1, (hs k (.inr (h2 k hk))).trans (hx k hk).2.2⟩, fun k hk => ⟨(hf k hk).1, Nat.lt_of_lt_of_le (hf k hk).2 hsz⟩⟩
theorem LoopX.stable {Jx : Nat → (Nat → Prop) → World → Prop} {C0 OwnJ Own : Nat → Prop} {N0 N : Nat} (hJ : Stable OwnJ Jx) (h1 : ∀ k, OwnJ k → Own k) : ∀ c, Stable Own (LoopX Jx C0 N0 N c) := by
  rintro c i C W W' ⟨hc, ⟨i', hi', hj⟩, hf⟩ hs hsz
  exact ⟨hc, ⟨i', hi', hJ _ C W W' hj (fun k hk => hs k (hk.imp id (h1 k))) hsz⟩, fun k hk => ⟨(hf k hk).1, Nat.lt_of_lt_of_le (hf k hk).2 hsz⟩⟩

theorem QRow.rs {N : Nat} {w : World} {g : Nat} {v : Value} {l : List Int} (h : QRow w g 1 v l.length (nums .i64 l)) (hN : g < N) : RS N w v l := by
  obtain ⟨off, cap, h1, h2, h3, h4, h5, h6, h7⟩ := h
  refine ⟨_, cap, h1, h2, fun k hk => ⟨g, off, rfl, hN, h5 k _ ?_⟩⟩
  simp [nums, hk]

theorem cover_actions (a b c n : Int) (w : World) :
    Calls Tryz.prog 113 #[ordersV a b c, .int .i64 n] w fun e w' => e = .returned (.func (.func 152) #[] #[.pointer (some ⟨w.heap.size + 1, 0, none⟩), .pointer (some ⟨w.heap.size, 0, none⟩)]) ∧ Below w.heap.size w w' ∧ w'.heap.size = w.heap.size + 2 ∧
      w'.heap[w.heap.size]? = some (.cells #[.int .i64 a, .int .i64 b, .int .i64 c] 23) ∧ w'.heap[w.heap.size + 1]? = some (.cells #[.int .i64 n] 3) := by
  unfold ordersV
  go_enter Tryz.func113, Tryz.ntmps113
  go_wp2_with fail
  go_ret
  refine ⟨rfl, ((Below.refl _ _).alloc (Nat.le_refl _) _).alloc (by simp) _, by simp, ?_, ?_⟩
  · exact (Below.heap_alloc _ _ _ (by simp)).trans (World.alloc_heap_new w _)
  · have := World.alloc_heap_new (w.alloc (.cells #[.int .i64 a, .int .i64 b, .int .i64 c] 23)) (.cells #[.int .i64 n] 3)
    rwa [World.size_alloc] at this

attribute [local go_sem] Oper.semAt_some

set_option maxRecDepth 100000 in
set_option maxHeartbeats 8000000 in
theorem actions_iter (X : Nat → Prop) {w : World} {n nb ob : Nat} {a b c : Int} (he : Hy.ordErr a b c = 0) (hn : 1 ≤ n ∧ n ≤ 5) (hnb : w.heap[nb]? = some (.cells #[.int .i64 n] 3)) (hob : w.heap[ob]? = some (.cells #[.int .i64 a, .int .i64 b, .int .i64 c] 23)) :
    IterS Tryz.prog 152 #[.pointer (some ⟨nb, 0, none⟩), .pointer (some ⟨ob, 0, none⟩)] (actsL (ordN a b c) n).length (ActS (ordN a b c) n) (fun k => (k = nb ∨ k = ob) ∨ X k) (fun _ => False) w := by
  intro l J Jx C W hW hOwn hSh hJ hJx hY h0 hC
  refine callsIn_wide.2 ?_
  have HNB := Lib.hid ((hOwn nb (.inl (.inl rfl))).2.1.trans hnb)
  have HOB := Lib.hid ((hOwn ob (.inl (.inr rfl))).2.1.trans hob)
  have HOWN := Lib.hid (show ∀ k, ((k = nb ∨ k = ob) ∨ X k) → k < W.heap.size ∧ ¬ C k from fun k hk => ⟨Nat.lt_of_lt_of_le (hOwn k hk).1 hW, (hOwn k hk).2.2⟩)
  have HJ := Lib.hid hJ; have HJX := Lib.hid hJx; have HY := Lib.hid hY; have HJ0 := Lib.hid h0; have HC := Lib.hid hC
  have HN := Lib.hid hn; have HE := Lib.hid he
  have HBK := Lib.hid (fun W => cover_backs n W)
  have hnl := (HOWN.out nb (.inl (.inl rfl))).1
  clear hnb hob hOwn hSh hJ hJx hY h0 hC hW hn he
  refine calls_of_marks Tryz.func152 rfl ?_
  simp only [Tryz.ntmps152, List.size_toArray, List.length_cons, List.length_nil, Nat.reduceAdd, Nat.reduceSub, Array.replicate_succ, Array.replicate_zero, List.push_toArray, List.append_toArray, List.nil_append, List.cons_append]
  go_upto_region 1 with fail
  obtain ⟨W1, hW1⟩ : ∃ W1, W1 = W.alloc (.cells #[.func (.yield l) #[] #[]] 101) := ⟨_, rfl⟩
  have HB1 := Lib.hid (show Below W.heap.size W W1 from by rw [hW1]; exact (Below.refl _ _).alloc (Nat.le_refl _) _)
  have HY1 := Lib.hid (show W1.heap[W.heap.size]? = some (.cells #[.func (.yield l) #[] #[]] 101) from by rw [hW1]; exact World.alloc_heap_new W _)
  have HS1 := Lib.hid (show W1.heap.size = W.heap.size + 1 from by rw [hW1]; simp)
  rw [← hW1]
  clear hW1
  have z1 := cell_of_heap ((HB1.out.block nb hnl).trans HNB.out) 0
  simp only [List.getElem?_toArray, List.getElem?_cons_zero] at z1
  go_wp2_with fail
  refine (HBK.out _).mono ?_
  rintro e w2 ⟨rfl, hB, hs2, hb2⟩
  have HB2 := Lib.hid hB
  have HS2 := Lib.hid hs2
  have HNB2 := Lib.hid hb2
  clear hB hs2 hb2 z1
  go_wp2_with fail
  obtain ⟨o, ho⟩ : ∃ o, o = ordN a b c := ⟨_, rfl⟩
  obtain ⟨X1, hX1⟩ : ∃ X1 : Nat → Prop, X1 = fun k => ((k = nb ∨ k = ob) ∨ X k) ∨ k = W.heap.size := ⟨_, rfl⟩
  have HX1 := Lib.hid (show (∀ k, ((k = nb ∨ k = ob) ∨ X k) → X1 k) ∧ X1 W.heap.size ∧ ∀ k, X1 k → k < W1.heap.size ∧ ¬ C k from by
    refine ⟨fun k hk => by rw [hX1]; exact .inl hk, by rw [hX1]; exact .inr rfl, fun k hk => ?_⟩
    have h1 := HS1.out
    rw [hX1] at hk
    rcases hk with hk | hk
    · have := HOWN.out k hk
      exact ⟨by omega, this.2⟩
    · subst hk
      exact ⟨by omega, fun h => by have := HC.out _ h; omega⟩)
  have HJ1 := Lib.hid (show ∀ (X' Own C0 : Nat → Prop) N0 w0 cnt, (∀ k, X1 k → X' k) → (∀ k, X' k → Own k) → Stable Own (LoopI J X' C0 N0 w0 cnt) from fun X' Own C0 N0 w0 cnt h1 h2 => LoopI.stable HJ.out (fun k hk => h2 k (h1 k (HX1.out.1 k hk))) h2)
  have HX2 := Lib.hid (show ∀ (Own C0 : Nat → Prop) N0 N, (∀ k, X1 k → Own k) → ∀ c, Stable Own (LoopX Jx C0 N0 N c) from fun Own C0 N0 N h => LoopX.stable HJX.out (fun k hk => h k (HX1.out.1 k hk)))
  have HO := Lib.hid ho
  have HRD := Lib.hid (show ∀ W' : World, (∀ k, X1 k → W'.heap[k]? = w2.heap[k]?) → W'.heap[nb]? = some (.cells #[.int .i64 n] 3) ∧ W'.heap[ob]? = some (.cells #[.int .i64 a, .int .i64 b, .int .i64 c] 23) ∧ W'.heap[W.heap.size]? = some (.cells #[.func (.yield l) #[] #[]] 101) from fun W' h => by
    have hwb : Below W.heap.size W w2 := HB1.out.trans (HB2.out.mono HB1.out.size)
    exact ⟨(h nb (HX1.out.1 nb (.inl (.inl rfl)))).trans ((hwb.block nb hnl).trans HNB.out), (h ob (HX1.out.1 ob (.inl (.inr rfl)))).trans ((hwb.block ob (HOWN.out ob (.inl (.inr rfl))).1).trans HOB.out), (h _ HX1.out.2.1).trans ((HB2.out.block _ (by have := HS1.out; omega)).trans HY1.out)⟩)
  clear hX1
  have HZ := Lib.hid (show W1.heap.size = W.heap.size + 1 ∧ w2.heap.size = W1.heap.size + 1 ∧ W1.heap.size ≤ w2.heap.size from ⟨HS1.out, HS2.out, by have := HS2.out; omega⟩)
  refine wp_rangeT (gf := 170) (lb := #[.pointer (some ⟨W1.heap.size, 0, none⟩)]) rfl (fun args w => by simp [go_sem]) (backs_iter X1 HN.out HNB2.out) (Nat.le_refl _) ?hps
    (LoopI J X1 C W.heap.size w2 (fun i => (((backsL n).take i).flatMap (actA o n)).length)) (LoopX Jx C W.heap.size (actsL o n).length) ?hI ?hIx C ?hC0 ?hOwn ?hSh ?h0 ?hround ?hdone ?hstop
  case hps =>
    rintro i C args W ⟨v, g, L, rfl, _⟩
    rfl
  case hI => exact HJ1.out _ _ _ _ _ _ (fun k hk => hk) (fun k hk => .inr hk)
  case hIx => exact HX2.out _ _ _ _ (fun k hk => .inr hk)
  case hC0 =>
    intro k hk
    have := HC.out k hk
    have := HZ.out
    omega
  case hOwn =>
    intro k hk
    have hz := HZ.out
    rcases hk with rfl | hk
    · exact ⟨by omega, rfl, fun h => by have := HC.out _ h; omega⟩
    · have := HX1.out.2.2 k hk
      exact ⟨by omega, rfl, this.2⟩
  case hSh => exact fun k hk => hk.elim
  case h0 =>
    have hwb : Below W.heap.size W w2 := HB1.out.trans (HB2.out.mono HB1.out.size)
    refine ⟨?_, fun k hk => ⟨(HX1.out.2.2 k hk).2, by have := (HX1.out.2.2 k hk).1; have := HZ.out; omega, rfl⟩, fun k hk => ⟨.inl hk, Nat.lt_of_lt_of_le (HC.out k hk) hwb.size⟩⟩
    refine HJ.out 0 C W w2 HJ0.out (fun k hk => hwb.block k ?_) hwb.size
    rcases hk with hk | hk
    · exact HC.out k hk
    · exact (HOWN.out k hk).1
  case hdone =>
    intro D C9 W9 hD hDC hI hO hK
    simp only [Exit.inBlock]
    show bodyPostM Fence.wide 0 _ _ _ .ret _ _
    refine post_marks1 rfl hK (results_none rfl _ _ _) ?_
    have hone : Only (fun k => k = D) W9 (W9.putObj D (.deferred none)) := only_putObj (B := fun k => k = D) W9 rfl _
    have hwb : Below W.heap.size W w2 := HB1.out.trans (HB2.out.mono HB1.out.size)
    have hz := HZ.out
    refine ⟨⟨_, rfl⟩, ((Only.of_below hwb (fun k hk => .inl (.inr hk))).trans (hO.mono (fun k hk => ?_))).trans (hone.mono (fun k hk => .inl (.inr (by omega)))), C9, fun k hk => ⟨(hI.2.2 k hk).1, Nat.lt_of_lt_of_le (hI.2.2 k hk).2 hone.size⟩, .inl ?_⟩
    · rcases hk with (hk | hk) | hk
      · exact .inl (.inl hk)
      · exact .inl (.inr (by omega))
      · exact hk.elim
    · have hj := hI.1
      have hlen : (((backsL n).take (backsL n).length).flatMap (actA o n)).length = (actsL (ordN a b c) n).length := by rw [Cov.flat_all, HO.out]; rfl
      simp only [hlen] at hj
      exact HJ.out _ C9 W9 _ hj (fun k hk => hone.block k (fun e => by
        rcases hk with hk | hk
        · exact hDC (e ▸ hk)
        · have := HOWN.out k hk; omega)) hone.size
  case hstop =>
    rintro D i c9 C9 W9 hD hDC hi ⟨rfl, ⟨i', hi', hj⟩, hf⟩ hO hK
    refine wp_ret ?_
    simp only [Exit.inBlock]
    refine post_marks1 rfl hK (results_none rfl _ _ _) ?_
    have hone : Only (fun k => k = D) W9 (W9.putObj D (.deferred none)) := only_putObj (B := fun k => k = D) W9 rfl _
    have hwb : Below W.heap.size W w2 := HB1.out.trans (HB2.out.mono HB1.out.size)
    have hz := HZ.out
    refine ⟨⟨_, rfl⟩, ((Only.of_below hwb (fun k hk => .inl (.inr hk))).trans (hO.mono (fun k hk => ?_))).trans (hone.mono (fun k hk => .inl (.inr (by omega)))), C9, fun k hk => ⟨(hf k hk).1, Nat.lt_of_lt_of_le (hf k hk).2 hone.size⟩, .inr ⟨i', by rw [← HO.out]; exact hi', ?_⟩⟩
    · rcases hk with (hk | hk) | hk
      · exact .inl (.inl hk)
      · exact .inl (.inr (by omega))
      · exact hk.elim
    · exact HJX.out _ C9 W9 _ hj (fun k hk => hone.block k (fun e => by
        rcases hk with hk | hk
        · exact hDC (e ▸ hk)
        · have := HOWN.out k hk; omega)) hone.size
  case hround =>
    rintro l1 i C1 args W3 hi ⟨va, ga, La, rfl, hxa, hla, hqa, hga⟩ hI hC hsz hCl hlW hOl
    simp only [List.zip_toArray, List.zip_cons_cons, List.zip_nil_left, List.size_toArray, List.foldl_toArray, List.foldl_cons, List.foldl_nil, List.setIfInBounds_toArray, List.set_cons_succ, List.set_cons_zero]
    have hl1X : ∀ k, X1 k → k ≠ l1 := fun k hk => hOl k (.inr hk)
    have hga' : ¬ C1 ga ∧ ga ≠ l1 := ⟨fun h => hga (.inl h), fun h => hga (.inr (.inr h))⟩
    have HI := Lib.hid hI
    have HCF := Lib.hid hC
    have HL1 := Lib.hid (And.intro hCl (And.intro hlW hl1X))
    have HQA := Lib.hid hqa
    have HGA := Lib.hid hga'
    have HXA := Lib.hid (And.intro hxa hla)
    have HSZ := Lib.hid hsz
    clear hI hC hCl hlW hOl hl1X hqa hga hga' hxa hla hsz hi
    obtain ⟨offa, capa, hva, -⟩ := id HQA.out
    subst hva
    gi_wp2_with fail
    refine ⟨(Only.refl _ W3).alloc (fun k hk => .inr hk) _, ?_⟩
    intro W4 hs4 hk4 hr4
    have hs4' : W4.heap.size = W3.heap.size + 1 := by simpa using hs4
    have hold4 : ∀ k, k < W3.heap.size → k ≠ l1 → W4.heap[k]? = W3.heap[k]? := fun k hk hne => (hk4 k hne).trans (Below.heap_alloc _ _ _ hk)
    have hab : W4.heap[W3.heap.size]? = some (.cells #[.slice (some ⟨ga, offa, none⟩) n capa] 24) := (hk4 _ (by have := HL1.out.2.1; omega)).trans (World.alloc_heap_new W3 _)
    have hw3 : w2.heap.size < W3.heap.size := HSZ.out
    have hx4 : ∀ k, X1 k → W4.heap[k]? = w2.heap[k]? := fun k hk => (hold4 k (by have := (HI.out.2.1 k hk).2.1; omega) (HL1.out.2.2 k hk)).trans (HI.out.2.1 k hk).2.2
    have hq4 := HQA.out.of_heap (hold4 ga HQA.out.bd HGA.out.2) (by omega)
    have hj4 : J (((backsL n).take i).flatMap (actA o n)).length C1 W4 := HJ.out _ C1 W3 W4 HI.out.1 (fun k hk => by
      rcases hk with hk | hk
      · exact hold4 k (HCF.out k hk) (fun e => HL1.out.1 (e ▸ hk))
      · exact hold4 k (by have := (HX1.out.2.2 k (HX1.out.1 k hk)).1; have := HZ.out; omega) (HL1.out.2.2 k (HX1.out.1 k hk))) (by omega)
    obtain ⟨r4, hr4⟩ := hr4
    have HS4 := Lib.hid hs4'; have HOLD4 := Lib.hid hold4; have HAB := Lib.hid hab; have HX4 := Lib.hid hx4; have HQ4 := Lib.hid hq4; have HJ4 := Lib.hid hj4; have HR4 := Lib.hid hr4; have HW3 := Lib.hid hw3
    have z1 := cell_of_heap (HRD.out W4 hx4).1 0
    simp only [List.getElem?_toArray, List.getElem?_cons_zero] at z1
    clear hs4 hk4 hs4' hold4 hab hx4 hq4 hj4 hr4 hw3
    gi_wp2_with fail
    refine ⟨trivial, rfl, ((Open.round l1).calls (HBK.out _)).mono ?_⟩
    rintro e w5 ⟨rfl, hB, hs5, hb5⟩
    have HB5 := Lib.hid hB
    have HS5 := Lib.hid hs5
    have HNB5 := Lib.hid hb5
    clear hB hs5 hb5 z1
    gi_wp2_with fail
    obtain ⟨X2, hX2⟩ : ∃ X2 : Nat → Prop, X2 = fun k => X1 k ∨ k = W3.heap.size ∨ k = ga := ⟨_, rfl⟩
    have HZ5 := Lib.hid (show w5.heap.size = W4.heap.size + 1 ∧ W4.heap.size = W3.heap.size + 1 ∧ w2.heap.size < W3.heap.size ∧ W.heap.size + 2 = w2.heap.size from ⟨HS5.out, HS4.out, HW3.out, by have := HZ.out; omega⟩)
    have HX2' := Lib.hid (show (∀ k, X1 k → X2 k) ∧ X2 W3.heap.size ∧ X2 ga ∧ ∀ k, X2 k → k < W4.heap.size ∧ ¬ C1 k from by
      refine ⟨fun k hk => by rw [hX2]; exact .inl hk, by rw [hX2]; exact .inr (.inl rfl), by rw [hX2]; exact .inr (.inr rfl), fun k hk => ?_⟩
      have h1 := HZ5.out
      rw [hX2] at hk
      rcases hk with hk | hk | hk
      · exact ⟨by have := (HI.out.2.1 k hk).2.1; omega, (HI.out.2.1 k hk).1⟩
      · subst hk
        exact ⟨by omega, fun h => by have := HCF.out _ h; omega⟩
      · subst hk
        exact ⟨HQ4.out.bd, HGA.out.1⟩)
    clear hX2
    refine wpIn_rangeN (gf := 170) (lb := #[.pointer (some ⟨W4.heap.size, 0, none⟩)]) (l₀ := l1) (r₀ := r4) ((HB5.out.block l1 (by have := HL1.out.2.1; have := HZ5.out; omega)).trans HR4.out) rfl (fun args w => by simp [go_sem]) (backs_iter X2 HN.out HNB5.out) (Nat.le_refl _) ?hps
      (LoopI J X2 C1 W3.heap.size w5 (fun j => (((backsL n).take i).flatMap (actA o n)).length + (((backsL n).take j).flatMap (actB o n La)).length)) (LoopX Jx C1 W3.heap.size (actsL o n).length) ?hI ?hIx C1 ?hC0 ?hOwn ?hSh ?h0 ?hround ?hdone ?hstop
    case hps =>
      rintro i C args W ⟨v, g, L, rfl, _⟩
      rfl
    case hI => exact HJ1.out _ _ _ _ _ _ HX2'.out.1 (fun k hk => .inr hk)
    case hIx => exact HX2.out _ _ _ _ (fun k hk => .inr (HX2'.out.1 k hk))
    case hC0 =>
      intro k hk
      have := HCF.out k hk
      have := HZ5.out
      omega
    case hOwn =>
      intro k hk
      have hz := HZ5.out
      rcases hk with rfl | hk
      · exact ⟨by omega, rfl, fun h => by have := HCF.out _ h; omega⟩
      · have := HX2'.out.2.2.2 k hk
        exact ⟨by omega, rfl, this.2⟩
    case hSh => exact fun k hk => hk.elim
    case h0 =>
      refine ⟨?_, fun k hk => ⟨(HX2'.out.2.2.2 k hk).2, by have := (HX2'.out.2.2.2 k hk).1; have := HZ5.out; omega, rfl⟩, fun k hk => ⟨.inl hk, by have := HCF.out k hk; have := HZ5.out; omega⟩⟩
      refine HJ.out _ C1 W4 w5 HJ4.out (fun k hk => HB5.out.block k ?_) HB5.out.size
      rcases hk with hk | hk
      · have := HCF.out k hk; have := HZ5.out; omega
      · have := (HX1.out.2.2 k (HX1.out.1 k hk)).1; have := HZ5.out; have := HZ.out; omega
    case hdone =>
      intro C9 W9 hI9 hO9
      have hz := HZ5.out
      simp only [Exit.inBlock]
      refine ⟨(Only.of_below HB5.out (fun k hk => .inr (by omega))).trans (hO9.mono (fun k hk => ?_)), C9, fun k hk => ?_, ?_⟩
      · rcases hk with (hk | hk) | hk
        · exact .inl hk
        · exact .inr (by omega)
        · exact hk.elim
      · exact hI9.2.2 k hk
      · refine ⟨?_, fun k hk => ⟨(hI9.2.1 k (HX2'.out.1 k hk)).1, (HI.out.2.1 k hk).2.1, ?_⟩, fun k hk => ⟨?_, (hI9.2.2 k hk).2⟩⟩
        · have hj := hI9.1
          simp only [Cov.flat_all] at hj
          show J (((backsL n).take (i + 1)).flatMap (actA o n)).length C9 W9
          rw [Cov.flat_take _ _ HXA.out.1, List.length_append]
          exact hj
        · exact ((hI9.2.1 k (HX2'.out.1 k hk)).2.2.trans (HB5.out.block k (by have := (HI.out.2.1 k hk).2.1; omega))).trans (HX4.out k hk)
        · rcases (hI9.2.2 k hk).1 with h | h
          · exact (HI.out.2.2 k h).1
          · exact .inr (by omega)
    case hstop =>
      rintro i9 c9 C9 W9 hi9 ⟨rfl, hjx, hf⟩ hO9
      have hz := HZ5.out
      refine wpIn_ret ?_
      simp only [Exit.inBlock]
      refine ⟨(Only.of_below HB5.out (fun k hk => .inr (by omega))).trans (hO9.mono (fun k hk => ?_)), C9, fun k hk => hf k hk, rfl, hjx, fun k hk => ⟨?_, (hf k hk).2⟩⟩
      · rcases hk with (hk | hk) | hk
        · exact .inl hk
        · exact .inr (by omega)
        · exact hk.elim
      · rcases (hf k hk).1 with h | h
        · exact (HI.out.2.2 k h).1
        · exact .inr (by omega)
    case hround =>
      rintro l2 j C2 args W6 hj ⟨vb, gb, Lb, rfl, hxb, hlb, hqb, hgb⟩ hI2 hC2 hsz2 hCl2 hlW2 hOl2
      simp only [List.zip_toArray, List.zip_cons_cons, List.zip_nil_left, List.size_toArray, List.foldl_toArray, List.foldl_cons, List.foldl_nil, List.setIfInBounds_toArray, List.set_cons_succ, List.set_cons_zero]
      have hl2X : ∀ k, X2 k → k ≠ l2 := fun k hk => hOl2 k (.inr hk)
      have hgb' : ¬ C2 gb ∧ gb ≠ l2 := ⟨fun h => hgb (.inl h), fun h => hgb (.inr h)⟩
      have HI2 := Lib.hid hI2
      have HCF2 := Lib.hid hC2
      have HL2 := Lib.hid (And.intro hCl2 (And.intro hlW2 hl2X))
      have HQB := Lib.hid hqb
      have HGB := Lib.hid hgb'
      have HXB := Lib.hid (And.intro hxb hlb)
      have HSZ2 := Lib.hid (show w5.heap.size ≤ l2 from hsz2)
      clear hI2 hC2 hCl2 hlW2 hOl2 hl2X hqb hgb hgb' hxb hlb hsz2 hj
      obtain ⟨offb, capb, hvb, -⟩ := id HQB.out
      subst hvb
      gi_wp2_with fail
      refine ⟨(Only.refl _ W6).alloc (fun k hk => .inr hk) _, ?_⟩
      intro W7 hs7 hk7 hr7
      have hs7' : W7.heap.size = W6.heap.size + 1 := by simpa using hs7
      have hold7 : ∀ k, k < W6.heap.size → k ≠ l2 → W7.heap[k]? = W6.heap[k]? := fun k hk hne => (hk7 k hne).trans (Below.heap_alloc _ _ _ hk)
      have hbb : W7.heap[W6.heap.size]? = some (.cells #[.slice (some ⟨gb, offb, none⟩) n capb] 24) := (hk7 _ (by have := HL2.out.2.1; omega)).trans (World.alloc_heap_new W6 _)
      have hw6 : w5.heap.size < W6.heap.size := Nat.lt_of_le_of_lt HSZ2.out HL2.out.2.1
      have hx7 : ∀ k, X2 k → W7.heap[k]? = w5.heap[k]? := fun k hk => (hold7 k (by have := (HI2.out.2.1 k hk).2.1; omega) (HL2.out.2.2 k hk)).trans (HI2.out.2.1 k hk).2.2
      have hq7 := HQB.out.of_heap (hold7 gb HQB.out.bd HGB.out.2) (by omega)
      have hj7 : J ((((backsL n).take i).flatMap (actA o n)).length + (((backsL n).take j).flatMap (actB o n La)).length) C2 W7 := HJ.out _ C2 W6 W7 HI2.out.1 (fun k hk => by
        rcases hk with hk | hk
        · exact hold7 k (HCF2.out k hk) (fun e => HL2.out.1 (e ▸ hk))
        · exact hold7 k (by have := (HX2'.out.2.2.2 k (HX2'.out.1 k (HX1.out.1 k hk))).1; have := HZ5.out; omega) (HL2.out.2.2 k (HX2'.out.1 k (HX1.out.1 k hk)))) (by omega)
      obtain ⟨r7, hr7⟩ := hr7
      have HS7 := Lib.hid hs7'; have HOLD7 := Lib.hid hold7; have HBB := Lib.hid hbb; have HX7 := Lib.hid hx7; have HQ7 := Lib.hid hq7; have HJ7 := Lib.hid hj7; have HR7 := Lib.hid hr7; have HW6 := Lib.hid hw6
      have HRD7 := Lib.hid (show ∀ W' : World, (∀ k, X2 k → W'.heap[k]? = w5.heap[k]?) → ∀ k, X1 k → W'.heap[k]? = w2.heap[k]? from fun W' h k hk => (h k (HX2'.out.1 k hk)).trans ((HB5.out.block k (by have := (HX2'.out.2.2.2 k (HX2'.out.1 k hk)).1; omega)).trans (HX4.out k hk)))
      have z1 := cell_of_heap (HRD.out W7 (HRD7.out W7 hx7)).1 0
      simp only [List.getElem?_toArray, List.getElem?_cons_zero] at z1
      clear hs7 hk7 hs7' hold7 hbb hx7 hq7 hj7 hr7 hw6
      gi_wp2_with fail
      refine ⟨trivial, rfl, ((Open.round l2).calls (HBK.out _)).mono ?_⟩
      rintro e w8 ⟨rfl, hB, hs8, hb8⟩
      have HB8 := Lib.hid hB
      have HS8 := Lib.hid hs8
      have HNB8 := Lib.hid hb8
      clear hB hs8 hb8 z1
      gi_wp2_with fail
      obtain ⟨X3, hX3⟩ : ∃ X3 : Nat → Prop, X3 = fun k => X2 k ∨ k = W6.heap.size ∨ k = gb := ⟨_, rfl⟩
      have HZ8 := Lib.hid (show w8.heap.size = W7.heap.size + 1 ∧ W7.heap.size = W6.heap.size + 1 ∧ w5.heap.size < W6.heap.size from ⟨HS8.out, HS7.out, HW6.out⟩)
      have HX3' := Lib.hid (show (∀ k, X2 k → X3 k) ∧ X3 W6.heap.size ∧ X3 gb ∧ ∀ k, X3 k → k < W7.heap.size ∧ ¬ C2 k from by
        refine ⟨fun k hk => by rw [hX3]; exact .inl hk, by rw [hX3]; exact .inr (.inl rfl), by rw [hX3]; exact .inr (.inr rfl), fun k hk => ?_⟩
        have h1 := HZ8.out
        rw [hX3] at hk
        rcases hk with hk | hk | hk
        · exact ⟨by have := (HI2.out.2.1 k hk).2.1; omega, (HI2.out.2.1 k hk).1⟩
        · subst hk
          exact ⟨by omega, fun h => by have := HCF2.out _ h; omega⟩
        · subst hk
          exact ⟨HQ7.out.bd, HGB.out.1⟩)
      clear hX3
      have HX3J := Lib.hid (show (∀ k, X1 k → X3 k) from fun k hk => HX3'.out.1 k (HX2'.out.1 k hk))
      refine wpIn_rangeN (gf := 170) (lb := #[.pointer (some ⟨W7.heap.size, 0, none⟩)]) (l₀ := l2) (r₀ := r7) ((HB8.out.block l2 (by have := HL2.out.2.1; have := HZ8.out; omega)).trans HR7.out) rfl (fun args w => by simp [go_sem]) (backs_iter X3 HN.out HNB8.out) (Nat.le_refl _) ?hps
        (LoopI J X3 C2 W6.heap.size w8 (fun k => (((backsL n).take i).flatMap (actA o n)).length + (((backsL n).take j).flatMap (actB o n La)).length + (((backsL n).take k).flatMap (actC o La Lb)).length)) (LoopX Jx C2 W6.heap.size (actsL o n).length) ?hI ?hIx C2 ?hC0 ?hOwn ?hSh ?h0 ?hround ?hdone ?hstop
      case hps =>
        rintro i C args W ⟨v, g, L, rfl, _⟩
        rfl
      case hI => exact HJ1.out _ _ _ _ _ _ HX3J.out (fun k hk => .inr hk)
      case hIx => exact HX2.out _ _ _ _ (fun k hk => .inr (HX3J.out k hk))
      case hC0 =>
        intro k hk
        have := HCF2.out k hk
        have := HZ8.out
        omega
      case hOwn =>
        intro k hk
        have hz := HZ8.out
        rcases hk with rfl | hk
        · exact ⟨by omega, rfl, fun h => by have := HCF2.out _ h; omega⟩
        · have := HX3'.out.2.2.2 k hk
          exact ⟨by omega, rfl, this.2⟩
      case hSh => exact fun k hk => hk.elim
      case h0 =>
        refine ⟨?_, fun k hk => ⟨(HX3'.out.2.2.2 k hk).2, by have := (HX3'.out.2.2.2 k hk).1; have := HZ8.out; omega, rfl⟩, fun k hk => ⟨.inl hk, by have := HCF2.out k hk; have := HZ8.out; omega⟩⟩
        refine HJ.out _ C2 W7 w8 HJ7.out (fun k hk => HB8.out.block k ?_) HB8.out.size
        rcases hk with hk | hk
        · have := HCF2.out k hk; have := HZ8.out; omega
        · exact (HX3'.out.2.2.2 k (HX3J.out k (HX1.out.1 k hk))).1
      case hdone =>
        intro C9 W9 hI9 hO9
        have hz := HZ8.out
        have hz5 := HZ5.out
        simp only [Exit.inBlock]
        refine ⟨(Only.of_below HB8.out (fun k hk => .inr (by omega))).trans (hO9.mono (fun k hk => ?_)), C9, fun k hk => ?_, ?_⟩
        · rcases hk with (hk | hk) | hk
          · exact .inl hk
          · exact .inr (by omega)
          · exact hk.elim
        · exact hI9.2.2 k hk
        · refine ⟨?_, fun k hk => ⟨(hI9.2.1 k (HX3'.out.1 k hk)).1, (HI2.out.2.1 k hk).2.1, ?_⟩, fun k hk => ⟨?_, (hI9.2.2 k hk).2⟩⟩
          · have hj := hI9.1
            simp only [Cov.flat_all] at hj
            show J ((((backsL n).take i).flatMap (actA o n)).length + (((backsL n).take (j + 1)).flatMap (actB o n La)).length) C9 W9
            rw [Cov.flat_take _ _ HXB.out.1, List.length_append, ← Nat.add_assoc]
            exact hj
          · exact ((hI9.2.1 k (HX3'.out.1 k hk)).2.2.trans (HB8.out.block k (by have := (HI2.out.2.1 k hk).2.1; omega))).trans (HX7.out k hk)
          · rcases (hI9.2.2 k hk).1 with h | h
            · exact (HI2.out.2.2 k h).1
            · exact .inr (by omega)
      case hstop =>
        rintro i9 c9 C9 W9 hi9 ⟨rfl, hjx, hf⟩ hO9
        have hz := HZ8.out
        have hz5 := HZ5.out
        refine wpIn_ret ?_
        simp only [Exit.inBlock]
        refine ⟨(Only.of_below HB8.out (fun k hk => .inr (by omega))).trans (hO9.mono (fun k hk => ?_)), C9, fun k hk => hf k hk, rfl, hjx, fun k hk => ⟨?_, (hf k hk).2⟩⟩
        · rcases hk with (hk | hk) | hk
          · exact .inl hk
          · exact .inr (by omega)
          · exact hk.elim
        · rcases (hf k hk).1 with h | h
          · exact (HI2.out.2.2 k h).1
          · exact .inr (by omega)
      case hround =>
        rintro l3 m C3 args W9 hm ⟨vc, gc, Lc, rfl, hxc, hlc, hqc, hgc⟩ hI3 hC3 hsz3 hCl3 hlW3 hOl3
        simp only [List.zip_toArray, List.zip_cons_cons, List.zip_nil_left, List.size_toArray, List.foldl_toArray, List.foldl_cons, List.foldl_nil, List.setIfInBounds_toArray, List.set_cons_succ, List.set_cons_zero]
        have hl3X : ∀ k, X3 k → k ≠ l3 := fun k hk => hOl3 k (.inr hk)
        have hgc' : ¬ C3 gc ∧ gc ≠ l3 := ⟨fun h => hgc (.inl h), fun h => hgc (.inr h)⟩
        have HI3 := Lib.hid hI3
        have HCF3 := Lib.hid hC3
        have HL3 := Lib.hid (And.intro hCl3 (And.intro hlW3 hl3X))
        have HQC := Lib.hid hqc
        have HGC := Lib.hid hgc'
        have HXC := Lib.hid (And.intro hxc hlc)
        have HSZ3 := Lib.hid (show w8.heap.size ≤ l3 from hsz3)
        clear hI3 hC3 hCl3 hlW3 hOl3 hl3X hqc hgc hgc' hxc hlc hsz3 hm
        obtain ⟨offc, capc, hvc, -⟩ := id HQC.out
        subst hvc
        gi_wp2_with fail
        refine ⟨Only.refl _ W9, ?_⟩
        intro W10 hs10 hk10 hr10
        have hw9 : w8.heap.size < W9.heap.size := Nat.lt_of_le_of_lt HSZ3.out HL3.out.2.1
        have hx10 : ∀ k, X3 k → W10.heap[k]? = w8.heap[k]? := fun k hk => (hk10 k (HL3.out.2.2 k hk)).trans (HI3.out.2.1 k hk).2.2
        have hq10 := HQC.out.of_heap (hk10 gc HGC.out.2) (by omega)
        have hj10 := HJ.out _ C3 W9 W10 HI3.out.1 (fun k hk => by
          rcases hk with hk | hk
          · exact hk10 k (fun e => HL3.out.1 (e ▸ hk))
          · exact hk10 k (HL3.out.2.2 k (HX3J.out k (HX1.out.1 k hk)))) (by omega)
        have HRD10 := Lib.hid (HRD7.out W10 (fun k hk => (hx10 k (HX3'.out.1 k hk)).trans ((HB8.out.block k (by have := (HX3'.out.2.2.2 k (HX3'.out.1 k hk)).1; omega)).trans (HX7.out k hk))))
        have HS10 := Lib.hid hs10; have HX10 := Lib.hid hx10; have HQ10 := Lib.hid hq10; have HJ10 := Lib.hid hj10; have HW9 := Lib.hid hw9
        have hz8 := HZ8.out
        have hz5 := HZ5.out
        have hab10 : W10.heap[W3.heap.size]? = some (.cells #[.slice (some ⟨ga, offa, none⟩) n capa] 24) :=
          (hx10 _ (HX3'.out.1 _ HX2'.out.2.1)).trans ((HB8.out.block _ (by omega)).trans ((HX7.out _ HX2'.out.2.1).trans ((HB5.out.block _ (by omega)).trans HAB.out)))
        have hbb10 : W10.heap[W6.heap.size]? = some (.cells #[.slice (some ⟨gb, offb, none⟩) n capb] 24) :=
          (hx10 _ HX3'.out.2.1).trans ((HB8.out.block _ (by omega)).trans HBB.out)
        have hqa10 : QRow W10 ga 1 (.slice (some ⟨ga, offa, none⟩) n capa) n (nums .i64 La) := HQ4.out.of_heap ((hx10 _ (HX3'.out.1 _ HX2'.out.2.2.1)).trans ((HB8.out.block _ (by have := HQ4.out.bd; omega)).trans ((HX7.out _ HX2'.out.2.2.1).trans (HB5.out.block _ HQ4.out.bd)))) (by omega)
        have hqb10 : QRow W10 gb 1 (.slice (some ⟨gb, offb, none⟩) n capb) n (nums .i64 Lb) := HQ7.out.of_heap ((hx10 _ HX3'.out.2.2.1).trans (HB8.out.block _ HQ7.out.bd)) (by omega)
        have HAB10 := Lib.hid hab10; have HBB10 := Lib.hid hbb10; have HQA10 := Lib.hid hqa10; have HQB10 := Lib.hid hqb10
        have k1 := cell_of_heap hab10 0
        have k2 := cell_of_heap hbb10 0
        simp only [List.getElem?_toArray, List.getElem?_cons_zero] at k1 k2
        clear hs10 hk10 hw9 hx10 hq10 hj10 hz8 hz5 hab10 hbb10 hqa10 hqb10 hr10
        gi_upto_region 8 with fail
        obtain ⟨cm, hcm⟩ : ∃ cm, cm = (((backsL n).take i).flatMap (actA o n)).length + (((backsL n).take j).flatMap (actB o n La)).length + (((backsL n).take m).flatMap (actC o La Lb)).length := ⟨_, rfl⟩
        have HCM := Lib.hid hcm
        have hcm1 : (((backsL n).take i).flatMap (actA o n)).length + (((backsL n).take j).flatMap (actB o n La)).length + (((backsL n).take (m + 1)).flatMap (actC o La Lb)).length = cm + (actC o La Lb Lc).length := by
          rw [Cov.flat_take _ _ HXC.out.1, List.length_append, hcm]; omega
        have hown10 : ∀ k, ((k = nb ∨ k = ob) ∨ X k) → k < W10.heap.size := fun k hk => by
          have := HX3'.out.2.2.2 k (HX3J.out k (HX1.out.1 k hk)); have := HZ8.out; have := HW9.out; have := HS10.out; omega
        have HJ10' := Lib.hid (show J cm C3 W10 from by rw [hcm]; exact HJ10.out)
        have HNO := Lib.hid (show ∀ (a' : Act) (W' : World), Below W10.heap.size W10 W' → ¬ Whole o (triA La Lb Lc) → roundPostC (LoopI J X3 C2 W6.heap.size w8 (fun k => (((backsL n).take i).flatMap (actA o n)).length + (((backsL n).take j).flatMap (actB o n La)).length + (((backsL n).take k).flatMap (actC o La Lb)).length)) (LoopX Jx C2 W6.heap.size (actsL o n).length) m C3 W9.heap.size W10 .normal a' W' from fun a' W' hB hW => by
          refine ⟨Only.of_below hB (fun k hk => .inr (by rw [← HS10.out]; exact hk)), C3, fun k hk => ⟨.inl hk, by have := HCF3.out k hk; have := HS10.out; have := hB.size; omega⟩, ?_, fun k hk => ⟨(HI3.out.2.1 k hk).1, (HI3.out.2.1 k hk).2.1, ?_⟩, fun k hk => ⟨(HI3.out.2.2 k hk).1, by have := HCF3.out k hk; have := HS10.out; have := hB.size; omega⟩⟩
          · show J ((((backsL n).take i).flatMap (actA o n)).length + (((backsL n).take j).flatMap (actB o n La)).length + (((backsL n).take (m + 1)).flatMap (actC o La Lb)).length) C3 W'
            rw [hcm1]
            unfold actC
            rw [if_neg hW]
            exact HJ.out _ C3 W10 W' HJ10'.out (fun k hk => hB.block k (by
              rcases hk with hk | hk
              · have := HCF3.out k hk; have := HS10.out; omega
              · exact hown10 k hk)) hB.size
          · exact (hB.block k (by have := (HI3.out.2.1 k hk).2.1; have := HW9.out; have := HS10.out; omega)).trans (HX10.out k hk))
        have HAT := Lib.hid (show Whole o (triA La Lb Lc) → (actsL o n)[cm]? = some (triA La Lb Lc) from fun hW => by
          have h1 : (actC o La Lb Lc)[0]? = some (triA La Lb Lc) := by unfold actC; rw [if_pos hW]; rfl
          have h2 : (actB o n La Lb)[(((backsL n).take m).flatMap (actC o La Lb)).length + 0]? = some (triA La Lb Lc) := Cov.flat_at (backsL n) (actC o La Lb) HXC.out.1 h1
          have h3 : (actA o n La)[(((backsL n).take j).flatMap (actB o n La)).length + ((((backsL n).take m).flatMap (actC o La Lb)).length + 0)]? = some (triA La Lb Lc) := Cov.flat_at (backsL n) (actB o n La) HXB.out.1 h2
          have h4 : (actsL o n)[(((backsL n).take i).flatMap (actA o n)).length + ((((backsL n).take j).flatMap (actB o n La)).length + ((((backsL n).take m).flatMap (actC o La Lb)).length + 0))]? = some (triA La Lb Lc) := Cov.flat_at (backsL n) (actA o n) HXA.out.1 h3
          rw [Nat.add_zero, ← Nat.add_assoc, ← hcm] at h4
          exact h4)
        have HYES := Lib.hid (show ∀ (W4 : World), Below W10.heap.size W10 W4 → Whole o (triA La Lb Lc) → ∀ (W5 : World) (C5 : Nat → Prop), Only (Mine C3 W4.heap.size) W4 W5 → (∀ k, C5 k → Mine C3 W4.heap.size k ∧ k < W5.heap.size) →
            (J (cm + 1) C5 W5 → ∀ a' : Act, roundPostC (LoopI J X3 C2 W6.heap.size w8 (fun k => (((backsL n).take i).flatMap (actA o n)).length + (((backsL n).take j).flatMap (actB o n La)).length + (((backsL n).take k).flatMap (actC o La Lb)).length)) (LoopX Jx C2 W6.heap.size (actsL o n).length) m C3 W9.heap.size W10 .normal a' W5) ∧
            (Jx (cm + 1) C5 W5 → ∀ a' : Act, roundPostC (LoopI J X3 C2 W6.heap.size w8 (fun k => (((backsL n).take i).flatMap (actA o n)).length + (((backsL n).take j).flatMap (actB o n La)).length + (((backsL n).take k).flatMap (actC o La Lb)).length)) (LoopX Jx C2 W6.heap.size (actsL o n).length) m C3 W9.heap.size W10 .ret a' W5) from fun W4 hB hW W5 C5 hO hC5 => by
          have hmine : ∀ k, Mine C3 W4.heap.size k → Mine C3 W9.heap.size k := fun k hk => hk.imp id (fun h => by have := hB.size; have := HS10.out; omega)
          have hfoot : ∀ k, Mine C3 W9.heap.size k → Mine C2 W6.heap.size k := fun k hk => by
            rcases hk with hk | hk
            · exact (HI3.out.2.2 k hk).1
            · exact .inr (by have := HW9.out; have := HZ8.out; omega)
          have hon : Only (Mine C3 W9.heap.size) W10 W5 := (Only.of_below hB (fun k hk => .inr (by rw [← HS10.out]; exact hk))).trans (hO.mono hmine)
          refine ⟨fun hj a' => ⟨hon, C5, fun k hk => ⟨hmine k (hC5 k hk).1, (hC5 k hk).2⟩, ?_, fun k hk => ⟨fun h => ?_, (HI3.out.2.1 k hk).2.1, ?_⟩, fun k hk => ⟨hfoot k (hmine k (hC5 k hk).1), (hC5 k hk).2⟩⟩,
            fun hj a' => ⟨hon, C5, fun k hk => ⟨hmine k (hC5 k hk).1, (hC5 k hk).2⟩, rfl, ⟨cm + 1, ?_, hj⟩, fun k hk => ⟨hfoot k (hmine k (hC5 k hk).1), (hC5 k hk).2⟩⟩⟩
          · show J ((((backsL n).take i).flatMap (actA o n)).length + (((backsL n).take j).flatMap (actB o n La)).length + (((backsL n).take (m + 1)).flatMap (actC o La Lb)).length) C5 W5
            rw [hcm1]
            unfold actC
            rw [if_pos hW]
            exact hj
          · rcases hmine k (hC5 k h).1 with h1 | h1
            · exact (HI3.out.2.1 k hk).1 h1
            · have := (HI3.out.2.1 k hk).2.1; have := HW9.out; omega
          · refine (hon.block k ?_).trans (HX10.out k hk)
            rintro (h1 | h1)
            · exact (HI3.out.2.1 k hk).1 h1
            · have := (HI3.out.2.1 k hk).2.1; have := HW9.out; omega
          · exact (List.getElem?_eq_some_iff.1 (HAT.out hW)).1)
        clear hcm hcm1 hown10
        obtain ⟨W11, hW11⟩ : ∃ W11, W11 = W10.alloc (.cells #[.slice (some ⟨ga, offa, none⟩) n capa, .slice (some ⟨gb, offb, none⟩) n capb, .slice (some ⟨gc, offc, none⟩) n capc] 27) := ⟨_, rfl⟩
        have HB11 := Lib.hid (show Below W10.heap.size W10 W11 from by rw [hW11]; exact (Below.refl _ _).alloc (Nat.le_refl _) _)
        have hxb := show W11.heap[W10.heap.size]? = some (.cells #[.slice (some ⟨ga, offa, none⟩) n capa, .slice (some ⟨gb, offb, none⟩) n capb, .slice (some ⟨gc, offc, none⟩) n capc] 27) from by rw [hW11]; exact World.alloc_heap_new W10 _
        have hs11 : W11.heap.size = W10.heap.size + 1 := by rw [hW11]; simp
        have HS11 := Lib.hid hs11
        rw [← hW11]
        clear hW11
        obtain ⟨V, hV⟩ : ∃ V : Nat → Value, V = fun x => if x = 0 then .slice (some ⟨ga, offa, none⟩) n capa else if x = 1 then .slice (some ⟨gb, offb, none⟩) n capb else .slice (some ⟨gc, offc, none⟩) n capc := ⟨_, rfl⟩
        have HV := Lib.hid (show V 0 = .slice (some ⟨ga, offa, none⟩) n capa ∧ V 1 = .slice (some ⟨gb, offb, none⟩) n capb ∧ V 2 = .slice (some ⟨gc, offc, none⟩) n capc from by rw [hV]; exact ⟨rfl, rfl, rfl⟩)
        clear hV
        have HR := Lib.hid (show ∀ W' : World, Below W10.heap.size W10 W' → (∀ x, x < 3 → ∃ g, QRow W' g 1 (V x) n (nums .i64 (triA La Lb Lc x)) ∧ ¬ C3 g ∧ g < W10.heap.size) from fun W' hB x hx => by
          obtain ⟨v0, v1, v2⟩ := HV.out
          obtain rfl | rfl | rfl : x = 0 ∨ x = 1 ∨ x = 2 := by omega
          · exact ⟨ga, by rw [v0]; exact HQA10.out.of_heap (hB.block _ HQA10.out.bd) hB.size, (HI3.out.2.1 ga (HX3'.out.1 _ HX2'.out.2.2.1)).1, HQA10.out.bd⟩
          · exact ⟨gb, by rw [v1]; exact HQB10.out.of_heap (hB.block _ HQB10.out.bd) hB.size, (HI3.out.2.1 gb HX3'.out.2.2.1).1, HQB10.out.bd⟩
          · exact ⟨gc, by rw [v2]; exact HQ10.out.of_heap (hB.block _ HQ10.out.bd) hB.size, HGC.out.1, HQ10.out.bd⟩)
        have HSH3 := Lib.hid (show Shaped (triA La Lb Lc) from by
          have hra := Cov.backs_range (List.mem_of_getElem? HXA.out.1)
          have hrb := Cov.backs_range (List.mem_of_getElem? HXB.out.1)
          have hrc := Cov.backs_range (List.mem_of_getElem? HXC.out.1)
          refine ⟨⟨?_, ?_, ?_, ?_⟩, fun x hx k hk => ?_⟩
          · show 1 ≤ La.length; rw [hra.1]; exact HN.out.1
          · show La.length ≤ 200; rw [hra.1]; have := HN.out; omega
          · show Lb.length = La.length; rw [hra.1, hrb.1]
          · show Lc.length = La.length; rw [hra.1, hrc.1]
          · have e0 : (triA La Lb Lc 0).length = n := hra.1
            rw [e0]
            obtain rfl | rfl | rfl : x = 0 ∨ x = 1 ∨ x = 2 := by omega
            · exact hra.2 k (by rw [← e0]; exact hk)
            · exact hrb.2 k (by rw [← hrb.1]; exact hk)
            · exact hrc.2 k (by rw [← hrc.1]; exact hk))
        have HAR := Lib.hid (show ∀ W' : World, Below W10.heap.size W10 W' → AR W'.heap.size W' V (triA La Lb Lc) from fun W' hB x hx => by
          obtain ⟨g, hq, _, hgl⟩ := HR.out W' hB x hx
          have hl : (triA La Lb Lc x).length = n := by
            obtain rfl | rfl | rfl : x = 0 ∨ x = 1 ∨ x = 2 := by omega
            · exact HXA.out.2
            · exact HXB.out.2
            · exact HXC.out.2
          rw [← hl] at hq
          exact hq.rs (Nat.lt_of_lt_of_le hgl hB.size))
        have hrd := HRD.out W10 HRD10.out
        have lo : ob < W10.heap.size := (Array.getElem?_eq_some_iff.1 hrd.2.1).1
        have ln : nb < W10.heap.size := (Array.getElem?_eq_some_iff.1 hrd.1).1
        have ly : W.heap.size < W10.heap.size := (Array.getElem?_eq_some_iff.1 hrd.2.2).1
        have lx : W10.heap.size < W11.heap.size := by have := HS11.out; omega
        have q0 := (HB11.out.block _ lo).trans hrd.2.1
        have q1 := (HB11.out.block _ ln).trans hrd.1
        have q2 := (HB11.out.block _ ly).trans hrd.2.2
        have lo' : ob < W11.heap.size := by omega
        have ln' : nb < W11.heap.size := by omega
        have ly' : W.heap.size < W11.heap.size := by omega
        have g0 := fun (y : Later W11) => ((bcell y.h).1 ob 0 lo').trans (cell_of_heap q0 0)
        have g1 := fun (y : Later W11) => ((bcell y.h).1 ob 1 lo').trans (cell_of_heap q0 1)
        have g2 := fun (y : Later W11) => ((bcell y.h).1 ob 2 lo').trans (cell_of_heap q0 2)
        have gn := fun (y : Later W11) => ((bcell y.h).1 nb 0 ln').trans (cell_of_heap q1 0)
        have gy := fun (y : Later W11) => ((bcell y.h).1 W.heap.size 0 ly').trans (cell_of_heap q2 0)
        have p0 := fun (y : Later W11) => ((bcell y.h).1 W10.heap.size 0 lx).trans (cell_of_heap hxb 0)
        have p1 := fun (y : Later W11) => ((bcell y.h).1 W10.heap.size 1 lx).trans (cell_of_heap hxb 1)
        have p2 := fun (y : Later W11) => ((bcell y.h).1 W10.heap.size 2 lx).trans (cell_of_heap hxb 2)
        simp only [List.getElem?_toArray, List.getElem?_cons_zero, List.getElem?_cons_succ] at g0 g1 g2 gn gy p0 p1 p2
        have HH := Lib.hid (show ∀ W', Below W10.heap.size W10 W' → Calls Tryz.prog 79 #[.agg #[.int .i64 a, .int .i64 b, .int .i64 c], .agg #[.slice (some ⟨ga, offa, none⟩) n capa, .slice (some ⟨gb, offb, none⟩) n capb, .slice (some ⟨gc, offc, none⟩) n capc]] W' fun e w' => ((Cov.Holds o (letters (triA La Lb Lc)) (triA La Lb Lc 0).length ∧ e = .returned (.bool true)) ∨ (¬ Cov.Holds o (letters (triA La Lb Lc)) (triA La Lb Lc 0).length ∧ e = .returned (.bool false))) ∧ Below W'.heap.size W' w' from fun W' hB => by
          have h := cover_holds o (by rw [HO.out]; exact ordN_le HE.out) V _ W' (HAR.out W' hB) HSH3.out
          rw [HO.out, ← ordN_v HE.out, ← HO.out] at h
          unfold ordersV actV at h
          rw [HV.out.1, HV.out.2.1, HV.out.2.2] at h
          exact h)
        have HNB := Lib.hid (show ∀ W', Below W10.heap.size W10 W' → Calls Tryz.prog 67 #[.agg #[.slice (some ⟨ga, offa, none⟩) n capa, .slice (some ⟨gb, offb, none⟩) n capb, .slice (some ⟨gc, offc, none⟩) n capc], .int .i64 0] W' fun e w' => ∃ pa pc lv, e = .returned (.agg #[V 0, V 1, V 2, .slice pa (Cov.met (letters (triA La Lb Lc)) (triA La Lb Lc 0).length 0).length pc, lv]) ∧ Below W'.heap.size W' w' from fun W' hB => by
          have h := cover_numbered V _ W' (HAR.out W' hB) HSH3.out 0 HSH3.out.1.1
          unfold actV at h
          rw [HV.out.1, HV.out.2.1, HV.out.2.2] at h
          refine h.mono ?_
          rintro e w' ⟨pv, lv, rfl, hp, _, hB⟩
          obtain ⟨pa, pc, rfl⟩ := cover_met_len hp
          exact ⟨pa, pc, lv, by unfold numV; rw [HV.out.1, HV.out.2.1, HV.out.2.2], hB⟩)
        have HLA := Lib.hid (show (triA La Lb Lc 0).length = n from HXA.out.2)
        clear hrd lo ln ly lx q0 q1 q2 lo' ln' ly' hxb k1 k2 hs11
        refine wpIn_region_segs (Open.round l3) [([0, 1], [2]), ([3, 8, 4], [5]), ([6, 7, 9, 10, 11, 12, 13], [])] 14 (fun w' => ∃ y : Later W11, w' = y.W) ⟨⟨W11.drew, (Below.refl _ _).drew⟩, rfl⟩ (by kernel_rfl) (by kernel_rfl) ?_
        simp only [List.map_cons, List.map_nil, pickOps, List.flatMap_cons, List.flatMap_nil, List.cons_append, List.nil_append, List.take_succ_cons, List.take_zero, List.drop_succ_cons, List.drop_zero, wpSegs]
        repeat (go_big_quiet_step (fail))
        refine wpQuiet_nil ?_
        refine wpG_step ?_
        intro K2 hK2
        go_wp2_with fail
        refine (HH.out _ HB11.out.drew).mono ?_
        rintro e w4 ⟨hcase, hB⟩
        have hB4 := below_undrew hB
        clear hB
        rcases hcase with ⟨hh, rfl⟩ | ⟨hh, rfl⟩
        · have HHH := Lib.hid hh
          have HB4 := Lib.hid hB4
          clear hh hB4
          go_wp2_with fail
          refine ⟨⟨⟨w4, HB4.out⟩, rfl⟩, hK2 _ _ ?_⟩
          clear hK2
          refine wpG_nil ?_
          repeat (go_big_quiet_step (fail))
          refine wpQuiet_nil ?_
          refine wpG_step ?_
          intro K3 hK3
          go_wp2_with fail
          refine (HNB.out _ (HB11.out.trans (HB4.out.mono HB11.out.size))).mono ?_
          rintro e w5 ⟨pa, pc, lv, rfl, hB⟩
          have HB5' := Lib.hid (HB4.out.trans (hB.mono HB4.out.size))
          clear hB
          go_wp2_with fail
          refine ⟨⟨⟨w5, HB5'.out⟩, rfl⟩, hK3 _ _ ?_⟩
          clear hK3
          refine wpG_nil ?_
          obtain ⟨mt, hmt⟩ : ∃ mt, mt = (Cov.met (letters (triA La Lb Lc)) (triA La Lb Lc 0).length 0).length := ⟨_, rfl⟩
          rw [← hmt]
          have HM := Lib.hid hmt
          clear hmt
          have hfd : ∀ W' : World, (Instr.field 121 (.agg #[V 0, V 1, V 2, .slice pa mt pc, lv]) 1).run Tryz.prog W' = .ok (.slice pa mt pc) W' := fun W' => by kernel_rfl
          have HBW := Lib.hid (show Below W10.heap.size W10 w5 from HB11.out.trans (HB5'.out.mono HB11.out.size))
          by_cases hmn : mt = n
          · have heq : ((mt : Int) == (n : Int)) = true := by rw [beq_iff_eq]; omega
            have HW := Lib.hid (show Whole o (triA La Lb Lc) from ⟨HHH.out, by rw [← HM.out, HLA.out]; exact hmn⟩)
            clear hmn
            repeat (go_big_quiet_step (fail))
            refine wpQuiet_nil ?_
            refine wpG_nil ?_
            clear g0 g1 g2 gn gy p0 p1 p2 hfd
            have hold5 : ∀ k, k < W10.heap.size → w5.heap[k]? = W10.heap[k]? := fun k hk => HBW.out.block k hk
            have hj5 : J cm C3 w5 := HJ.out _ C3 W10 w5 HJ10'.out (fun k hk => hold5 k (by
              rcases hk with hk | hk
              · have := HCF3.out k hk; have := HS10.out; omega
              · have := HX3'.out.2.2.2 k (HX3J.out k (HX1.out.1 k hk)); have := HZ8.out; have := HW9.out; have := HS10.out; omega)) HBW.out.size
            obtain ⟨fn, tmps, assign, body, hyl, hRd⟩ := HY.out cm C3 #[actV V] w5 (by rw [← HO.out]; exact (List.getElem?_eq_some_iff.1 (HAT.out HW.out)).1) ⟨V, _, rfl, by rw [← HO.out]; exact HAT.out HW.out, HSH3.out, HLA.out, fun x hx => by
              obtain ⟨g, h1, h2, _⟩ := HR.out w5 HBW.out x hx
              exact ⟨g, h1, h2⟩⟩ hj5 (fun k hk => by have := HCF3.out k hk; have := HS10.out; have := HBW.out.size; omega)
            unfold actV at hyl
            rw [HV.out.1, HV.out.2.1, HV.out.2.2] at hyl
            have HRND := Lib.hid hRd
            clear hRd hj5 hold5
            gi_wp2_with fail
            refine ⟨rfl, HRND.out.mono ?_⟩
            rintro e W5 ⟨hO5, C5, hC5, hend⟩
            have HYE := Lib.hid (HYES.out w5 HBW.out HW.out W5 C5 hO5 hC5)
            clear hO5 hC5 hyl HRND
            rcases hend with ⟨rfl, hJ5⟩ | ⟨rfl, hJx5⟩
            · gi_wp2_with fail
              exact HYE.out.1 hJ5 _
            · gi_wp2_with fail
              exact HYE.out.2 hJx5 _
          · have heq : ((mt : Int) == (n : Int)) = false := by rw [beq_eq_false_iff_ne]; omega
            have HW := Lib.hid (show ¬ Whole o (triA La Lb Lc) from fun h => hmn (by rw [HM.out, h.2, HLA.out]))
            clear hmn
            repeat (go_big_quiet_step (fail))
            refine wpQuiet_nil ?_
            refine wpG_nil ?_
            clear g0 g1 g2 gn gy p0 p1 p2 hfd
            gi_wp2_with fail
            refine ⟨fun f h => (by cases h), ?_⟩
            refine ‹∀ (a : Act) (w : World), wpListIn _ _ _ _ _ _ a w → _› _ _ ?_
            gi_wp2_with fail
            exact HNO.out _ _ HBW.out HW.out
        · have HW := Lib.hid (show ¬ Whole o (triA La Lb Lc) from fun h => hh h.1)
          have HB4 := Lib.hid hB4
          clear hh hB4
          go_wp2_with fail
          refine ⟨⟨⟨w4, HB4.out⟩, rfl⟩, hK2 _ _ ?_⟩
          clear hK2
          refine wpG_nil ?_
          repeat (go_big_quiet_step (fail))
          refine wpQuiet_nil ?_
          refine wpG_step ?_
          intro K3 hK3
          go_wp2_with fail
          refine ⟨⟨⟨w4, HB4.out⟩, rfl⟩, hK3 _ _ ?_⟩
          clear hK3
          refine wpG_nil ?_
          repeat (go_big_quiet_step (fail))
          refine wpQuiet_nil ?_
          refine wpG_nil ?_
          clear g0 g1 g2 gn gy p0 p1 p2
          gi_wp2_with fail
          refine ⟨fun f h => (by cases h), ?_⟩
          refine ‹∀ (a : Act) (w : World), wpListIn _ _ _ _ _ _ a w → _› _ _ ?_
          gi_wp2_with fail
          exact HNO.out _ _ (HB11.out.trans (HB4.out.mono HB11.out.size)) HW.out
end Go.Proofs.YtfdklmpkienfhaaGreat

/- Package cover: what is checked of an index. -/
namespace Go.Proofs.YtfdklmpkienfhaaGreat
set_option linter.unusedSimpArgs false
set_option linter.unusedVariables false
open Go.RowKit

/-- The error of an index. -/
noncomputable def idxErr (a b c n : Int) : Int := if Hy.ordErr a b c ≠ 0 then Hy.ordErr a b c else if 1 ≤ n ∧ n ≤ 5 then 0 else 1
theorem idx_zero {a b c n : Int} (h : idxErr a b c n = 0) : Hy.ordErr a b c = 0 ∧ 1 ≤ n ∧ n ≤ 5 := by
  unfold idxErr at h
  split at h
  · exact absurd h (by assumption)
  · rename_i h1
    split at h
    · exact ⟨by simpa using h1, by assumption⟩
    · cases h

set_option maxRecDepth 100000 in
theorem cover_index (a b c n : Int) (w : World) : Calls Tryz.prog 112 #[ordersV a b c, .int .i64 n] w fun e w' =>
    ((idxErr a b c n = 0 ∧ e = .returned (.tuple #[])) ∨ (idxErr a b c n ≠ 0 ∧ e = .panicked [{ v := refusal (idxErr a b c n), recovered := false }])) ∧ Below w.heap.size w w' := by
  have HOK := Lib.hid (fun W => cover_must_ok 1 W)
  have HNO := Lib.hid (fun W => cover_must_no 1 W)
  have HOO := Lib.hid (fun h W => cover_orders_ok a b c h W)
  have HON := Lib.hid (fun h W => cover_orders_no a b c h W)
  obtain ⟨W1, hW1⟩ : ∃ W1, W1 = w.alloc (.cells #[.int .i64 a, .int .i64 b, .int .i64 c] 23) := ⟨_, rfl⟩
  have HB1 := Lib.hid (show Below w.heap.size w W1 from by rw [hW1]; exact (Below.refl w.heap.size w).alloc (Nat.le_refl _) _)
  have q0 : W1.heap[w.heap.size]? = some (.cells #[.int .i64 a, .int .i64 b, .int .i64 c] 23) := by
    rw [hW1]; exact alloc_heap_new w _
  unfold ordersV at *
  go_enter Tryz.func112, Tryz.ntmps112
  go_upto_region 1 with fail
  rw [← hW1]
  clear hW1
  have k0 := cell_of_heap q0 0
  have k1 := cell_of_heap q0 1
  have k2 := cell_of_heap q0 2
  simp only [List.getElem?_toArray, List.getElem?_cons_zero, List.getElem?_cons_succ] at k0 k1 k2
  by_cases ho : Hy.ordErr a b c = 0
  · go_wp2_with fail
    refine (HOO.out ho _).mono ?_
    rintro e w1 ⟨rfl, hB⟩
    have HB2 := Lib.hid (HB1.out.trans (hB.mono HB1.out.size))
    clear hB k0 k1 k2 q0
    have HO := Lib.hid ho
    clear ho
    by_cases h1 : 1 ≤ n
    · by_cases h2 : n ≤ 5
      · go_wp2_with fail
        refine (HOK.out _).mono ?_
        rintro e w6 ⟨rfl, rfl⟩
        go_wp2_with fail
        go_end0
        refine ⟨.inl ⟨?_, rfl⟩, HB2.out⟩
        unfold idxErr
        rw [if_neg (by simpa using HO.out), if_pos ⟨h1, h2⟩]
      · have h2' : 5 < n := by omega
        have hd : decide (n ≤ 5) = false := by simp; omega
        clear h2
        go_wp2_with fail
        refine (HNO.out _).mono ?_
        rintro e w6 ⟨rfl, rfl⟩
        go_wp2_with fail
        have e : idxErr a b c n = 1 := by
          unfold idxErr
          rw [if_neg (by simpa using HO.out), if_neg (fun h => by omega)]
        exact ⟨rfl, .inr ⟨by rw [e]; omega, by rw [e]⟩, HB2.out⟩
    · have h1' : n < 1 := by omega
      have hd : decide (1 ≤ n) = false := by simp; omega
      clear h1
      go_wp2_with fail
      refine (HNO.out _).mono ?_
      rintro e w6 ⟨rfl, rfl⟩
      go_wp2_with fail
      have e : idxErr a b c n = 1 := by
        unfold idxErr
        rw [if_neg (by simpa using HO.out), if_neg (fun h => by omega)]
      exact ⟨rfl, .inr ⟨by rw [e]; omega, by rw [e]⟩, HB2.out⟩
  · go_wp2_with fail
    refine (HON.out ho _).mono ?_
    rintro e w1 ⟨rfl, hB⟩
    have HB2 := Lib.hid (HB1.out.trans (hB.mono HB1.out.size))
    clear hB k0 k1 k2 q0
    go_wp2_with fail
    have e : idxErr a b c n = Hy.ordErr a b c := by unfold idxErr; rw [if_pos ho]
    exact ⟨rfl, .inr ⟨by rw [e]; exact ho, by rw [e]⟩, HB2.out⟩
end Go.Proofs.YtfdklmpkienfhaaGreat

/- A function that holds both: a deferred call and a range over a function. -/
namespace Go.Proofs.YtfdklmpkienfhaaGreat
set_option linter.unusedSimpArgs false
set_option linter.unusedVariables false
open Go.RowKit
section
variable {P : Program}

/-- 'Leaves' with marks ahead of the deferred calls. -/
def LeavesX (P : Program) (fn : Func) (tmps : Array Value) (R : Ending → World → Prop) : List Deferred → FrameMode → World → Prop
  | [], u, w => Leaves P fn tmps R [] u w
  | d :: ds, u, w => (u ≠ .run ∧ ∃ r w', d.target = .collected r ∧ (Instr.takeDeferred r).run P w = .ok [] w' ∧ LeavesX P fn tmps R ds u w') ∨ Leaves P fn tmps R (d :: ds) u w

theorem leaves_stepsX {fn : Func} {tmps : Array Value} {R : Ending → World → Prop} : ∀ (ds : List Deferred) (u : FrameMode) (w : World) (fr : Frame)
    (cs : List Frame), fr.mode = u → fr.defers = ds → fr.tmps = tmps → P.funcs[fr.fn]? = some fn → fr.kind = .normal → LeavesX P fn tmps R ds u w →
    ∃ e w' fr', R e w' ∧ Comes P (lone fr cs w) (lone fr' cs w') e ∧ fr'.fn = fr.fn ∧ fr'.leaving P w' e := by
  intro ds
  induction ds with
  | nil => exact fun u w fr cs hu hd ht hf hk h => leaves_steps [] u w fr cs hu hd ht hf hk h
  | cons d ds ih =>
    intro u w fr cs hu hd ht hf hk h
    rcases h with ⟨hrun, r, w', htar, htake, hrest⟩ | h
    · have h1 := step_collected (cs := cs) (hu ▸ hrun) hd htar htake
      obtain ⟨e', w'', fr', hR', hs', hfn', hl'⟩ := ih u w' { fr with defers := [] ++ ds } cs hu rfl ht hf hk hrest
      exact ⟨e', w'', fr', hR', Comes.of_steps (.one h1) hs', hfn', hl'⟩
    · exact leaves_steps (d :: ds) u w fr cs hu hd ht hf hk h

def bodyPostX (P : Program) (fn : Func) (R : Ending → World → Prop) : Exit → Act → World → Prop
  | .normal, a, w | .ret, a, w => LeavesX P fn a.tmps R a.defers .returning w
  | .panic chain, a, w => LeavesX P fn a.tmps R a.defers (.panicking chain) w
  | .outgrown, _, w => R .outgrown w
  | _, _, _ => False

theorem calls_of_wp_X {f : FuncId} {fn : Func} {c : Code} {args : Array Value} {w : World} {R : Ending → World → Prop}
    (hf : P.funcs[f]? = some fn) (hb : fn.body = some c)
    (h : c.wp P (bodyPostX P fn R) { tmps := args ++ Array.replicate (fn.ntmps - args.size) undef, defers := [] } w) : Calls P f args w R := by
  intro cs
  let b : Frame := { (default : Frame) with fn := f, kind := .normal }
  have henter : Frame.enter P f args .normal =
      b.at { tmps := args ++ Array.replicate (fn.ntmps - args.size) undef, defers := [] } [.code c] := by
    simp [Frame.enter, Frame.at, hf, hb, b]
  obtain ⟨e, a', w', hq, harr⟩ := h b [] cs
  rw [← henter] at harr
  cases e with
  | normal =>
    obtain ⟨e', w'', fr', hR, hs, hfn, hl⟩ := leaves_stepsX a'.defers .returning w' { b.at a' [] with mode := .returning } cs rfl rfl rfl hf rfl hq
    exact ⟨e', w'', fr', hR, Comes.of_steps (Steps.trans harr (.one step_end)) hs, hfn, hl⟩
  | ret =>
    obtain ⟨todo, hs₀⟩ := harr
    obtain ⟨e', w'', fr', hR, hs, hfn, hl⟩ := leaves_stepsX a'.defers .returning w' { b.at a' todo with mode := .returning } cs rfl rfl rfl hf rfl hq
    exact ⟨e', w'', fr', hR, Comes.of_steps hs₀ hs, hfn, hl⟩
  | panic chain =>
    obtain ⟨todo, hs₀⟩ := harr
    obtain ⟨e', w'', fr', hR, hs, hfn, hl⟩ := leaves_stepsX a'.defers (.panicking chain) w' { b.at a' todo with mode := .panicking chain } cs rfl rfl rfl hf rfl hq
    exact ⟨e', w'', fr', hR, Comes.of_steps hs₀ hs, hfn, hl⟩
  | exit id => exact hq.elim
  | goto l => exact hq.elim
  | outgrown => exact ⟨.outgrown, w', b, hq, harr.resolve_left (by simp [b]), rfl, trivial⟩

/-- A panic, with one deferred call. -/
theorem postX_panic {fn : Func} {R : Ending → World → Prop} {a : Act} {w : World} {chain : List PanicEntry} (h : Leaves P fn a.tmps R a.defers (.panicking chain) w) : bodyPostX P fn R (.panic chain) a w := by
  show LeavesX P fn a.tmps R a.defers (.panicking chain) w
  cases hd : a.defers with
  | nil => rw [hd] at h; exact h
  | cons d ds => rw [hd] at h; exact .inr h
/-- A return behind one loop. -/
theorem postX_mark {fn : Func} {R : Ending → World → Prop} {a : Act} {w : World} {D : Nat} {ds : List Deferred} (hd : a.defers = { target := .collected D, args := #[] } :: ds) (hK : w.heap[D]? = some (.deferred (some [])))
    (h : Leaves P fn a.tmps R ds .returning (w.putObj D (.deferred none))) : bodyPostX P fn R .ret a w := by
  show LeavesX P fn a.tmps R a.defers .returning w
  rw [hd]
  refine .inl ⟨by simp, D, _, rfl, run_takeDeferred hK, ?_⟩
  cases ds with
  | nil => exact h
  | cons d ds => exact .inr h
end
end Go.Proofs.YtfdklmpkienfhaaGreat
