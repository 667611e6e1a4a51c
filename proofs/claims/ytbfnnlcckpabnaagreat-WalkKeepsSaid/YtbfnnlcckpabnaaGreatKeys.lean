import Derived.Test.YtbfnnlcckpabnaaGreatIter
import Derived.Maps.Range
import Derived.Test.YtbfnnlcckpabnaaGreatWk3
import Derived.OwnWalkIn
import Derived.LoopIn

/-
A range over a function whose order nobody knows: each element once.
-/
namespace Go.Proofs.YtbfnnlcckpabnaaGreat
set_option linter.unusedSimpArgs false
set_option linter.unusedVariables false
open Go.RowKit

section
variable {α : Type} {P : Program}

/-- An invariant that speaks of its footprint's blocks alone, and of the iterator's own ones. -/
def StableL (Own : Nat → Prop) (J : List α → (Nat → Prop) → World → Prop) : Prop :=
  ∀ i C W W', J i C W → (∀ k, C k ∨ Own k → W'.heap[k]? = W.heap[k]?) → W.heap.size ≤ W'.heap.size → J i C W'

/-- What a round leaves. -/
def RoundEndL (J Jx : List α → (Nat → Prop) → World → Prop) (i : List α) (x : α) (C : Nat → Prop) (W1 : World) (e : Ending) (W' : World) : Prop :=
  Only (Mine C W1.heap.size) W1 W' ∧ ∃ C' : Nat → Prop, (∀ k, C' k → Mine C W1.heap.size k ∧ k < W'.heap.size) ∧
    ((e = .returned (.bool true) ∧ J (i ++ [x]) C' W') ∨ (e = .returned (.bool false) ∧ Jx (i ++ [x]) C' W'))

/-- The contract of an iterator that yields the elements xs one after the other; it reads the blocks of Own. -/
def IterL (P : Program) (g : FuncId) (lb : Array Value) (encs : α → Array Value) (xs : List α) (Own : Nat → Prop) (w : World) : Prop :=
  ∀ (l : Nat) (J Jx : List α → (Nat → Prop) → World → Prop) (C : Nat → Prop) (W : World), w.heap.size ≤ W.heap.size →
    (∀ k, Own k → k < w.heap.size ∧ W.heap[k]? = w.heap[k]? ∧ ¬ C k) → StableL Own J → StableL Own Jx →
    (∀ i C x W1, x ∈ xs ∧ x ∉ i → J i C W1 → (∀ k, C k → k < W1.heap.size) → YieldAt Fence.wide 0 P l (encs x) W1 (RoundEndL J Jx i x C W1)) →
    J [] C W → (∀ k, C k → k < W.heap.size) →
    CallsIn Fence.wide 0 P g (#[.func (.yield l) #[] #[]] ++ lb) W fun e W' => (∃ v, e = .returned v) ∧ Only (Mine C W.heap.size) W W' ∧
      ∃ C' : Nat → Prop, (∀ k, C' k → Mine C W.heap.size k ∧ k < W'.heap.size) ∧ ((∃ i : List α, i.Perm xs ∧ J i C' W') ∨ ∃ i, Jx i C' W')

/-- How the body of a round may be left. -/
def roundPostCL (I : List α → (Nat → Prop) → World → Prop) (Ix : Code → List α → (Nat → Prop) → World → Prop) (i : List α) (x : α) (C : Nat → Prop) (N : Nat) (W : World) : Exit → Act → World → Prop
  | .normal, _, W' => Only (Mine C N) W W' ∧ ∃ C' : Nat → Prop, (∀ k, C' k → Mine C N k ∧ k < W'.heap.size) ∧ I (i ++ [x]) C' W'
  | .ret, _, W' => Only (Mine C N) W W' ∧ ∃ C' : Nat → Prop, (∀ k, C' k → Mine C N k ∧ k < W'.heap.size) ∧ Ix .ret (i ++ [x]) C' W'
  | .exit id, _, W' => Only (Mine C N) W W' ∧ ∃ C' : Nat → Prop, (∀ k, C' k → Mine C N k ∧ k < W'.heap.size) ∧ Ix (.exit id) (i ++ [x]) C' W'
  | .goto t, _, W' => Only (Mine C N) W W' ∧ ∃ C' : Nat → Prop, (∀ k, C' k → Mine C N k ∧ k < W'.heap.size) ∧ Ix (.goto t) (i ++ [x]) C' W'
  | .panic _, _, _ => False
  | .outgrown, _, _ => False

/-- **The law of a range over a function.** -/
theorem wp_rangeL {g : Operand} {ps : Array Tmp} {assign body : Code} {Q : Exit → Act → World → Prop} {a : Act} {w : World} {gf : Nat} {lb : Array Value}
    (hg : a.eval g = .func (.func gf) #[] lb) (eg : ∀ args w, (callFunc gf args).run P w = .ok (.enter gf args) w)
    {encs : α → Array Value} {xs : List α} {Own : Nat → Prop} {w0 : World} (hseq : IterL P gf lb encs xs Own w0) (h0w : w0.heap.size ≤ w.heap.size) (hps : ∀ x, (encs x).size = ps.size)
    (I : List α → (Nat → Prop) → World → Prop) (Ix : Code → List α → (Nat → Prop) → World → Prop) (hI : StableL Own I) (hIx : ∀ c, StableL Own (Ix c))
    (C0 : Nat → Prop) (hC0 : ∀ k, C0 k → k < w.heap.size) (hOwn : ∀ k, Own k → k < w0.heap.size ∧ w.heap[k]? = w0.heap[k]? ∧ ¬ C0 k) (h0 : I [] C0 w)
    (hround : ∀ (l : Nat) (i : List α) (C : Nat → Prop) (x : α) (W : World), x ∈ xs ∧ x ∉ i → I i C W → (∀ k, C k → k < W.heap.size) → w.heap.size < W.heap.size → ¬ C l → l < W.heap.size → (∀ k, Own k → k ≠ l) →
      assign.wpIn (Fence.wide.inRound l) 0 P (Exit.then (fun a1 W1 => Only (Mine C W.heap.size) W W1 ∧ ∀ W2 : World, W2.heap.size = W1.heap.size → (∀ k, k ≠ l → W2.heap[k]? = W1.heap[k]?) →
          body.wpIn (Fence.wide.inRound l) 0 P (roundPostCL I Ix i x C W.heap.size W2) a1 W2) (fun _ _ _ => False))
        { tmps := (ps.zip (encs x)).foldl (fun t (p, v) => t.setIfInBounds p v) a.tmps, defers := [] } W)
    (hdone : ∀ (D : Nat) (i : List α) (C : Nat → Prop) (W : World), w.heap.size ≤ D → i.Perm xs → I i C W → Only (Mine C0 w.heap.size) w W → W.heap[D]? = some (.deferred (some [])) → Q .normal { a with defers := { target := .collected D, args := #[] } :: a.defers } W)
    (hstop : ∀ (D : Nat) (i : List α) (c : Code) (C : Nat → Prop) (W : World), w.heap.size ≤ D → Ix c i C W → Only (Mine C0 w.heap.size) w W → W.heap[D]? = some (.deferred (some [])) → c.wp P Q { a with defers := { target := .collected D, args := #[] } :: a.defers } W) :
    (Code.rangeFunc g ps assign body).wp P Q a w := by
  refine (wpIn_wide (n := 0)).1 ?_
  refine wpIn_rangeFunc ?_
  intro fn hfn
  show ∃ l mark w₁ d w₁' f args w₂, (Instr.enterLoop fn a.tmps ps assign body none).run P w = .ok (l, mark) w₁ ∧ _
  obtain ⟨rec, hrec⟩ : ∃ rec : LoopState → Option Code → Loop, rec = fun st pe => { state := st, pending := pe, fn, tmps := a.tmps, params := ps, assign, body, defers := w.heap.size } := ⟨_, rfl⟩
  obtain ⟨W1, hW1⟩ : ∃ W1, (w.alloc (.deferred (some []))).alloc (.loop (rec .ready none)) = W1 := ⟨_, rfl⟩
  have hs1 : W1.heap.size = w.heap.size + 2 := by rw [← hW1]; simp
  have hold : ∀ k, k < w.heap.size → W1.heap[k]? = w.heap[k]? := fun k hk => by
    rw [← hW1]; exact (Below.heap_alloc _ _ k (by simp; omega)).trans (Below.heap_alloc _ _ k hk)
  have hL1 : W1.heap[w.heap.size + 1]? = some (.loop (rec .ready none)) := by
    rw [← hW1]; have := World.alloc_heap_new (w.alloc (.deferred (some []))) (.loop (rec .ready none)); rwa [World.size_alloc] at this
  have hK1 : W1.heap[w.heap.size]? = some (.deferred (some [])) := by
    rw [← hW1]; exact (Below.heap_alloc _ _ _ (by simp)).trans (World.alloc_heap_new w _)
  have hO1 : Only (Mine C0 w.heap.size) w W1 := by
    rw [← hW1]; exact ((Only.refl _ w).alloc (fun k hk => .inr hk) _).alloc (fun k hk => .inr hk) _
  refine ⟨w.heap.size + 1, [{ target := .collected w.heap.size, args := #[] }], W1, { target := .fn (.func gf) lb, args := #[.func (.yield (w.heap.size + 1)) #[] #[]] }, W1, gf,
    #[.func (.yield (w.heap.size + 1)) #[] #[]] ++ lb, W1, ?_, ?_, fun f' _ => trivial, ?_, fun h => by simp [Fence.wide] at h, ?_⟩
  · rw [← hW1, hrec]; exact run_enterLoop_outer _ _ _ _ _
  · simp only [resolve, hg]
    simp [go_sem]
  · simp [invoke, go_sem, eg]
  · -- the footprint: the caller's blocks, the record and the block for the rounds' deferred calls
    refine (hseq (w.heap.size + 1)
      (fun i C W => ∃ C1 : Nat → Prop, (∀ k, C k ↔ C1 k ∨ k = w.heap.size ∨ k = w.heap.size + 1) ∧ (∀ k, C1 k → k ≠ w.heap.size ∧ k ≠ w.heap.size + 1) ∧ I i C1 W ∧ W.heap[w.heap.size + 1]? = some (.loop (rec .ready none)) ∧ W.heap[w.heap.size]? = some (.deferred (some [])))
      (fun i C W => ∃ C1 : Nat → Prop, (∀ k, C k ↔ C1 k ∨ k = w.heap.size ∨ k = w.heap.size + 1) ∧ (∀ k, C1 k → k ≠ w.heap.size ∧ k ≠ w.heap.size + 1) ∧ ∃ c, Ix c i C1 W ∧ W.heap[w.heap.size + 1]? = some (.loop (rec .done (some c))) ∧ W.heap[w.heap.size]? = some (.deferred (some [])))
      (fun k => C0 k ∨ k = w.heap.size ∨ k = w.heap.size + 1) W1 (by omega)
      (fun k hk => ?_) ?_ ?_ ?_ ?_ ?_).mono ?_
    · obtain ⟨h1, h2, h3⟩ := hOwn k hk
      refine ⟨h1, (hold k (by omega)).trans h2, ?_⟩
      rintro (h | h | h)
      · exact h3 h
      · omega
      · omega
    · rintro i C W W' ⟨C1, hC1, hne, hi, hl, hk⟩ hsame hsz
      exact ⟨C1, hC1, hne, hI i C1 W W' hi (fun k h => hsame k (h.imp (fun h => (hC1 k).2 (.inl h)) id)) hsz, (hsame _ (.inl ((hC1 _).2 (.inr (.inr rfl))))).trans hl, (hsame _ (.inl ((hC1 _).2 (.inr (.inl rfl))))).trans hk⟩
    · rintro i C W W' ⟨C1, hC1, hne, c, hi, hl, hk⟩ hsame hsz
      exact ⟨C1, hC1, hne, c, hIx c i C1 W W' hi (fun k h => hsame k (h.imp (fun h => (hC1 k).2 (.inl h)) id)) hsz, (hsame _ (.inl ((hC1 _).2 (.inr (.inr rfl))))).trans hl, (hsame _ (.inl ((hC1 _).2 (.inr (.inl rfl))))).trans hk⟩
    · -- one round
      rintro i C x W hx ⟨C1, hC1, hne, hi, hl, hk⟩ hCs
      have hlt : w.heap.size + 1 < W.heap.size := (Array.getElem?_eq_some_iff.1 hl).1
      have hy := run_yield (P := P) (args := encs x) hl (by rw [hrec]; exact hps x)
      rw [hrec] at hy
      have hr := hround (w.heap.size + 1) i C1 x W hx hi (fun k h => hCs k ((hC1 k).2 (.inl h))) (by omega) (fun h => (hne _ h).2 rfl) hlt (fun k hk => by have := (hOwn k hk).1; omega)
      refine ⟨fn, _, assign, body, hy, roundIn_of_wpIn hfn (wpIn_mono hr ?_)⟩
      rintro e a1 W2 hp
      cases e with
      | normal =>
        obtain ⟨hO, hbody⟩ := hp
        have hnl : ∀ k, k = w.heap.size ∨ k = w.heap.size + 1 → ¬ Mine C1 W.heap.size k := by
          rintro k hk1 (h | h)
          · have := hne k h; omega
          · omega
        have hl2 : W2.heap[w.heap.size + 1]? = some (.loop (rec .ready none)) := (hO.block _ (hnl _ (.inr rfl))).trans hl
        have hk2 : W2.heap[w.heap.size]? = some (.deferred (some [])) := (hO.block _ (hnl _ (.inl rfl))).trans hk
        have hlt2 : w.heap.size + 1 < W2.heap.size := (Array.getElem?_eq_some_iff.1 hl2).1
        refine ⟨_, run_beginRound hl2 (by rw [hrec]), ?_⟩
        refine wpIn_mono (hbody _ (by simp [World.putObj]) (fun k hk => World.putObj_heap_other hk)) ?_
        have fin : ∀ (jump : Option Code) (W3 : World), Only (Mine C1 W.heap.size) (W2.putObj (w.heap.size + 1) (.loop { rec .ready none with state := .busy })) W3 →
            (Instr.endRound (w.heap.size + 1) jump).run P W3 = .ok (.bool jump.isNone) (W3.putObj (w.heap.size + 1) (.loop (rec (if jump.isNone then .ready else .done) jump))) ∧
            (W3.putObj (w.heap.size + 1) (.loop (rec (if jump.isNone then .ready else .done) jump))).heap[w.heap.size + 1]? = some (.loop (rec (if jump.isNone then .ready else .done) jump)) ∧
            (W3.putObj (w.heap.size + 1) (.loop (rec (if jump.isNone then .ready else .done) jump))).heap[w.heap.size]? = some (.deferred (some [])) ∧
            Only (Mine C W.heap.size) W (W3.putObj (w.heap.size + 1) (.loop (rec (if jump.isNone then .ready else .done) jump))) := fun jump W3 hO3 => by
          have hl3 : W3.heap[w.heap.size + 1]? = some (.loop { rec .ready none with state := .busy }) := (hO3.block _ (hnl _ (.inr rfl))).trans (World.putObj_heap_same hlt2)
          have hk3 : W3.heap[w.heap.size]? = some (.deferred (some [])) := (hO3.block _ (hnl _ (.inl rfl))).trans ((World.putObj_heap_other (by omega)).trans hk2)
          have := run_endRound (P := P) jump hl3
          rw [hrec] at this ⊢
          have hm : ∀ k, Mine C1 W.heap.size k → Mine C W.heap.size k := fun k h => by
            rcases h with h | h
            · exact .inl ((hC1 k).2 (.inl h))
            · exact .inr h
          refine ⟨this, World.putObj_heap_same (Array.getElem?_eq_some_iff.1 hl3).1, (World.putObj_heap_other (by omega)).trans hk3, ?_⟩
          exact (((hO.mono hm).trans (only_putObj W2 (.inl ((hC1 _).2 (.inr (.inr rfl)))) _)).trans (by rw [hrec] at hO3; exact hO3.mono hm)).trans (only_putObj W3 (.inl ((hC1 _).2 (.inr (.inr rfl)))) _)
        have foot : ∀ (C' : Nat → Prop) (W3 : World) (o : Obj), Only (Mine C1 W.heap.size) (W2.putObj (w.heap.size + 1) (.loop { rec .ready none with state := .busy })) W3 → (∀ k, C' k → Mine C1 W.heap.size k ∧ k < W3.heap.size) →
            (∀ k, (C' k ∨ k = w.heap.size ∨ k = w.heap.size + 1) → Mine C W.heap.size k ∧ k < (W3.putObj (w.heap.size + 1) o).heap.size) ∧ (∀ k, C' k → k ≠ w.heap.size ∧ k ≠ w.heap.size + 1) := fun C' W3 o hO3 hC' => by
          have hsz3 : W2.heap.size ≤ W3.heap.size := by have := hO3.size; simpa [World.putObj] using this
          refine ⟨?_, ?_⟩
          · rintro k (h | h | h)
            · obtain ⟨h1, h2⟩ := hC' k h
              refine ⟨?_, by simpa [World.putObj] using h2⟩
              rcases h1 with h1 | h1
              · exact .inl ((hC1 k).2 (.inl h1))
              · exact .inr h1
            · exact ⟨.inl ((hC1 k).2 (.inr (.inl h))), by simp [World.putObj]; omega⟩
            · exact ⟨.inl ((hC1 k).2 (.inr (.inr h))), by simp [World.putObj]; omega⟩
          · intro k h
            obtain ⟨h1, _⟩ := hC' k h
            rcases h1 with h1 | h1
            · exact hne k h1
            · omega
        have still : ∀ (C' : Nat → Prop) (W3 : World) (o : Obj), (∀ k, C' k → k ≠ w.heap.size ∧ k ≠ w.heap.size + 1) → ∀ k, C' k ∨ Own k → (W3.putObj (w.heap.size + 1) o).heap[k]? = W3.heap[k]? := fun C' W3 o h k hk => World.putObj_heap_other (by
          rcases hk with hk | hk
          · exact (h k hk).2
          · have := (hOwn k hk).1; omega)
        rintro e a3 W3 hp
        cases e with
        | normal =>
          obtain ⟨hO3, C', hC', hi3⟩ := hp
          obtain ⟨hr, hl4, hk4, hO4⟩ := fin none W3 hO3
          obtain ⟨hf1, hf2⟩ := foot C' W3 (.loop (rec .ready none)) hO3 hC'
          exact ⟨_, _, hr, hO4, fun k => C' k ∨ k = w.heap.size ∨ k = w.heap.size + 1, hf1, .inl ⟨rfl, C', fun k => Iff.rfl, hf2, hI _ C' W3 _ hi3 (still C' W3 _ hf2) (by simp [World.putObj]), hl4, hk4⟩⟩
        | ret =>
          obtain ⟨hO3, C', hC', hi3⟩ := hp
          obtain ⟨hr, hl4, hk4, hO4⟩ := fin (some .ret) W3 hO3
          obtain ⟨hf1, hf2⟩ := foot C' W3 (.loop (rec .done (some .ret))) hO3 hC'
          exact ⟨_, _, hr, hO4, fun k => C' k ∨ k = w.heap.size ∨ k = w.heap.size + 1, hf1, .inr ⟨rfl, C', fun k => Iff.rfl, hf2, .ret, hIx _ _ C' W3 _ hi3 (still C' W3 _ hf2) (by simp [World.putObj]), hl4, hk4⟩⟩
        | exit id =>
          obtain ⟨hO3, C', hC', hi3⟩ := hp
          obtain ⟨hr, hl4, hk4, hO4⟩ := fin (some (.exit id)) W3 hO3
          obtain ⟨hf1, hf2⟩ := foot C' W3 (.loop (rec .done (some (.exit id)))) hO3 hC'
          exact ⟨_, _, hr, hO4, fun k => C' k ∨ k = w.heap.size ∨ k = w.heap.size + 1, hf1, .inr ⟨rfl, C', fun k => Iff.rfl, hf2, .exit id, hIx _ _ C' W3 _ hi3 (still C' W3 _ hf2) (by simp [World.putObj]), hl4, hk4⟩⟩
        | goto t =>
          obtain ⟨hO3, C', hC', hi3⟩ := hp
          obtain ⟨hr, hl4, hk4, hO4⟩ := fin (some (.goto t)) W3 hO3
          obtain ⟨hf1, hf2⟩ := foot C' W3 (.loop (rec .done (some (.goto t)))) hO3 hC'
          exact ⟨_, _, hr, hO4, fun k => C' k ∨ k = w.heap.size ∨ k = w.heap.size + 1, hf1, .inr ⟨rfl, C', fun k => Iff.rfl, hf2, .goto t, hIx _ _ C' W3 _ hi3 (still C' W3 _ hf2) (by simp [World.putObj]), hl4, hk4⟩⟩
        | panic ch => exact hp.elim
        | outgrown => exact hp.elim
      | ret => exact hp.elim
      | exit id => exact hp.elim
      | goto t => exact hp.elim
      | panic ch => exact hp.elim
      | outgrown => exact hp.elim
    · exact ⟨C0, fun k => Iff.rfl, fun k h => by have := hC0 k h; omega, hI [] C0 w W1 h0 (fun k h => hold k (h.elim (hC0 k) (fun h => Nat.lt_of_lt_of_le (hOwn k h).1 h0w))) (by omega), hL1, hK1⟩
    · rintro k (h | h | h)
      · have := hC0 k h; omega
      · omega
      · omega
    · -- behind the iterator
      rintro e W2 ⟨⟨v, rfl⟩, hO2, C', hC', hJ⟩
      have hmine : ∀ k, Mine (fun k => C0 k ∨ k = w.heap.size ∨ k = w.heap.size + 1) W1.heap.size k → Mine C0 w.heap.size k := by
        rintro k ((h | h | h) | h)
        · exact .inl h
        · exact .inr (by omega)
        · exact .inr (by omega)
        · exact .inr (by omega)
      have hOw : Only (Mine C0 w.heap.size) w W2 := hO1.trans (hO2.mono hmine)
      rcases hJ with ⟨i, hperm, C1, hC1, hne, hi, hl, hk⟩ | ⟨i, C1, hC1, hne, c, hi, hl, hk⟩
      · have hel := run_endLoop (P := P) hl (by rw [hrec]; simp)
        rw [hrec] at hel
        refine ⟨none, _, hel, ?_⟩
        exact hdone w.heap.size i C1 _ (Nat.le_refl _) hperm (hI _ C1 W2 _ hi (fun k h => World.putObj_heap_other (h.elim (fun h => (hne k h).2) (fun h => by have := (hOwn k h).1; omega))) (by simp [World.putObj])) (hOw.trans (only_putObj W2 (.inr (by omega)) _)) ((World.putObj_heap_other (by omega)).trans hk)
      · have hel := run_endLoop (P := P) hl (by rw [hrec]; simp)
        rw [hrec] at hel
        refine ⟨some c, _, hel, ?_⟩
        refine (wpIn_wide (n := 0)).2 ?_
        exact hstop w.heap.size i c C1 _ (Nat.le_refl _) (hIx c _ C1 W2 _ hi (fun k h => World.putObj_heap_other (h.elim (fun h => (hne k h).2) (fun h => by have := (hOwn k h).1; omega))) (by simp [World.putObj])) (hOw.trans (only_putObj W2 (.inr (by omega)) _)) ((World.putObj_heap_other (by omega)).trans hk)
end
end Go.Proofs.YtbfnnlcckpabnaaGreat

/- The keys of a map, in an order that nobody knows: each once. -/
namespace Go.Proofs.YtbfnnlcckpabnaaGreat
set_option linter.unusedSimpArgs false
set_option linter.unusedVariables false
open Go.RowKit
open Go.ChangeMaps (setBlock)

section
variable {α β : Type} {encK : α → Value} {encV : β → Value}

/-- What a walk over a map's entries has handed out: entries with their keys. -/
structure Walked (es : List MapEntry) (ks : List α) (seen : Array Nat) (ds : List (MapEntry × α)) : Prop where
  sub : ∀ z ∈ ds, z ∈ es.zip ks
  nodup : ds.Nodup
  seen : seen.toList = ds.map (·.1.born)

theorem walked_nil (es : List MapEntry) (ks : List α) : Walked es ks #[] [] := ⟨fun z hz => by (cases hz), List.nodup_nil, rfl⟩

theorem nodup_of_map {γ δ : Type} (f : γ → δ) : ∀ {l : List γ}, (l.map f).Nodup → l.Nodup
  | [], _ => List.nodup_nil
  | a :: l, h => by
    rw [List.map_cons, List.nodup_cons] at h
    exact List.nodup_cons.2 ⟨fun ha => h.1 (List.mem_map.2 ⟨a, ha, rfl⟩), nodup_of_map f h.2⟩

theorem inj_of_nodup {γ δ : Type} (f : γ → δ) : ∀ {l : List γ}, (l.map f).Nodup → ∀ {x y : γ}, x ∈ l → y ∈ l → f x = f y → x = y
  | [], _, x, y, hx, _, _ => by cases hx
  | a :: l, h, x, y, hx, hy, he => by
    rw [List.map_cons, List.nodup_cons] at h
    rcases List.mem_cons.1 hx with ex | hx'
    · rcases List.mem_cons.1 hy with ey | hy'
      · rw [ex, ey]
      · exact (h.1 (List.mem_map.2 ⟨y, hy', by rw [← he, ex]⟩)).elim
    · rcases List.mem_cons.1 hy with ey | hy'
      · exact (h.1 (List.mem_map.2 ⟨x, hx', by rw [he, ey]⟩)).elim
      · exact inj_of_nodup f h.2 hx' hy' he

theorem zip_fst {es : List MapEntry} {ks : List α} (h : es.length = ks.length) : (es.zip ks).map (·.1) = es := by
  rw [List.map_fst_zip (by omega)]

theorem zip_snd {es : List MapEntry} {ks : List α} (h : es.length = ks.length) : (es.zip ks).map (·.2) = ks := by
  rw [List.map_snd_zip (by omega)]

theorem zip_key {es : List MapEntry} {kv : List (α × β)} (h : Reads encK encV es kv) : ∀ z ∈ es.zip (kv.map (·.1)), z.1.key = encK z.2 := by
  intro z hz
  obtain ⟨i, hi, rfl⟩ := List.mem_iff_getElem.1 hz
  have h1 := congrArg (fun l => l[i]?) h
  have hi2 : i < es.length ∧ i < kv.length := by
    simp only [List.length_zip, List.length_map] at hi
    omega
  simp only [List.getElem?_map] at h1
  rw [List.getElem?_eq_getElem hi2.1, List.getElem?_eq_getElem hi2.2] at h1
  simp at h1
  simp [h1.1]

theorem walked_next {es : Array MapEntry} {kv : List (α × β)} (hr : Reads encK encV es.toList kv) {seen : Array Nat} {ds : List (MapEntry × α)} (h : Walked es.toList (kv.map (·.1)) seen ds) (hk : (kv.map (·.1)).Nodup)
    {e : MapEntry} (he : e ∈ (leftOf es seen).toList) : ∃ a, e.key = encK a ∧ a ∈ kv.map (·.1) ∧ a ∉ ds.map (·.2) ∧ Walked es.toList (kv.map (·.1)) (seen.push e.born) (ds ++ [(e, a)]) := by
  have hlen : es.toList.length = (kv.map (·.1)).length := by rw [reads_length hr]; simp
  unfold leftOf at he
  simp at he
  obtain ⟨hem, hes⟩ := he
  have hz : e ∈ (es.toList.zip (kv.map (·.1))).map (·.1) := by rw [zip_fst hlen]; simpa using hem
  obtain ⟨⟨e', a⟩, hz2, rfl⟩ := List.mem_map.1 hz
  clear hz
  have hnot : (e', a) ∉ ds := fun hd => by
    apply hes
    have : e'.born ∈ seen.toList := by rw [h.seen]; exact List.mem_map.2 ⟨_, hd, rfl⟩
    simpa using this
  refine ⟨a, zip_key hr _ hz2, ?_, ?_, ?_, ?_, ?_⟩
  · rw [← zip_snd hlen]; exact List.mem_map.2 ⟨_, hz2, rfl⟩
  · intro ha
    obtain ⟨z, hzd, hza⟩ := List.mem_map.1 ha
    have := inj_of_nodup (·.2) (by rw [zip_snd hlen]; exact hk) (h.sub z hzd) hz2 hza
    rw [this] at hzd
    exact hnot hzd
  · intro z hzd
    rcases List.mem_append.1 hzd with hzd | hzd
    · exact h.sub z hzd
    · rw [List.mem_singleton.1 hzd]; exact hz2
  · rw [List.nodup_append]
    exact ⟨h.nodup, by simp, fun a ha b hb => by rw [List.mem_singleton.1 hb]; rintro rfl; exact hnot ha⟩
  · rw [Array.toList_push, h.seen, List.map_append]; rfl

theorem walked_end {es : Array MapEntry} {kv : List (α × β)} (hr : Reads encK encV es.toList kv) {clock : Nat} (hs : Stamps es.toList clock) {seen : Array Nat} {ds : List (MapEntry × α)} (h : Walked es.toList (kv.map (·.1)) seen ds) (hk : (kv.map (·.1)).Nodup)
    (he : (leftOf es seen).size = 0) : (ds.map (·.2)).Perm (kv.map (·.1)) := by
  have hlen : es.toList.length = (kv.map (·.1)).length := by rw [reads_length hr]; simp
  rw [← zip_snd hlen]
  refine List.Perm.map _ ?_
  rw [List.perm_ext_iff_of_nodup h.nodup (nodup_of_map (·.2) (by rw [zip_snd hlen]; exact hk))]
  refine fun z => ⟨h.sub z, fun hz => ?_⟩
  have hz1 : z.1 ∈ es.toList := by rw [← zip_fst hlen]; exact List.mem_map.2 ⟨z, hz, rfl⟩
  have hin : z.1.born ∈ seen.toList := by
    apply Decidable.byContradiction
    intro hn
    have : z.1 ∈ leftOf es seen := by
      unfold leftOf
      simp
      exact ⟨by simpa using hz1, by simpa using hn⟩
    have h0 : leftOf es seen = #[] := Array.eq_empty_of_size_eq_zero he
    rw [h0] at this
    simp at this
  rw [h.seen] at hin
  obtain ⟨y, hy, hyz⟩ := List.mem_map.1 hin
  have hb : ((es.toList.zip (kv.map (·.1))).map (fun z => z.1.born)).Nodup := by
    have := hs.2
    rw [← zip_fst hlen, List.map_map] at this
    exact this
  have := inj_of_nodup (fun z : MapEntry × α => z.1.born) hb (h.sub y hy) hz hyz
  rw [← this]
  exact hy
end
end Go.Proofs.YtbfnnlcckpabnaaGreat

/- The iterator over the walls' keys. -/
namespace Go.Proofs.YtbfnnlcckpabnaaGreat
set_option linter.unusedSimpArgs false
set_option linter.unusedVariables false
open Go.RowKit

attribute [local go_sem] Oper.semAt_some

/-- While the keys are handed out. -/
def KInv {α β : Type} (J : List α → (Nat → Prop) → World → Prop) (C : Nat → Prop) (W : World) (wb : Nat) (es : Array MapEntry) (clock : Nat) (kv : List (α × β)) (wr : World) : Prop :=
  ∃ (ds : List (MapEntry × α)) (seen : Array Nat) (c0 : Nat) (C' : Nat → Prop), J (ds.map (·.2)) C' wr ∧ (∀ k, C' k → Mine C W.heap.size k ∧ k < wr.heap.size) ∧ Only (Mine C W.heap.size) W wr ∧
    wr.heap[W.heap.size]? = some (.mapIter (some wb) clock seen c0) ∧ ¬ C' W.heap.size ∧ clock ≤ c0 ∧ Walked es.toList (kv.map (·.1)) seen ds

theorem setBlock_put (w : World) (b : Nat) (o : Obj) : ChangeMaps.setBlock w b o = w.putObj b o := rfl

set_option maxRecDepth 100000 in
set_option maxHeartbeats 4000000 in
theorem keys_iterE {w : World} {wb : Nat} {kv : Walls} (h : MapAt w encEdge Value.bool wb kv) (hk : (kv.map (·.1)).Nodup) (xb : Nat) (hx : w.cell? ⟨xb, 0, none⟩ = some (.map (some wb))) :
    IterL Tryz.prog 86 #[.pointer (some ⟨xb, 0, none⟩)] (fun k => #[encEdge k]) (kv.map (·.1)) (fun k => k = xb ∨ k = wb) w := by
  intro l J Jx C W hW hOwn hJ hJx hY h0 hC
  refine callsIn_wide.2 ?_
  obtain ⟨es, clock, hm, hr, hs⟩ := h
  have hm0 : W.heap[wb]? = some (.map es clock) := (hOwn wb (.inr rfl)).2.1.trans hm
  have cx : W.cell? ⟨xb, 0, none⟩ = some (.map (some wb)) := (World.cell?_of_block (w := w) (a := ⟨xb, 0, none⟩) (hOwn xb (.inl rfl)).2.1).trans hx
  have hrange := run_range_map W 54 _ _ wb es clock Tryz.underlying54 hm0
  have hwl : wb < W.heap.size := (Array.getElem?_eq_some_iff.1 hm0).1
  have hwC : ¬ Mine C W.heap.size wb := by
    rintro (h | h)
    · exact (hOwn wb (.inr rfl)).2.2 h
    · omega
  have hinv : KInv J C W wb es clock kv (W.alloc (.mapIter (some wb) clock #[] clock)) := by
    refine ⟨[], #[], clock, C, hJ [] C W _ h0 (fun k hk => Below.heap_alloc _ _ _ (hk.elim (hC k) (fun h => Nat.lt_of_lt_of_le (hOwn k h).1 hW))) (by simp), fun k hk => ⟨.inl hk, by have := hC k hk; simp; omega⟩,
      (Only.refl _ W).alloc (fun k hk => .inr hk) _, World.alloc_heap_new _ _, fun h => by have := hC _ h; omega, Nat.le_refl _, walked_nil _ _⟩
  have HOWN := Lib.hid hOwn; have HJ := Lib.hid hJ; have HJX := Lib.hid hJx; have HY := Lib.hid hY; have HC := Lib.hid hC
  have HM0 := Lib.hid hm0; have HR := Lib.hid hr; have HS := Lib.hid hs; have HINV := Lib.hid hinv; have HWC := Lib.hid hwC
  clear hOwn hJ hJx hY h0 hC hm0 hr hs hinv hwC hm hx
  go_enter Tryz.func86, Tryz.ntmps86
  refine (wpIn_wide (n := 0)).1 ?_
  gi_wp2_with fail
  gi_loopw [3] (fun v wr => KInv J C W wb es clock kv wr) (fun v wr => wr.rangeLeft wb W.heap.size)
  case atStart => exact HINV.out
  case round =>
    obtain ⟨ds, seen, c0, C', hJi, hC', hOn, hit, hnC, hcc, hwk⟩ := hrel
    have hb : wr.heap[wb]? = some (.map es clock) := (hOn.block wb HWC.out).trans HM0.out
    have hrl : wr.rangeLeft wb W.heap.size = (leftOf es seen).size := by simp only [World.rangeLeft, hb, hit]
    have hitl : W.heap.size < wr.heap.size := (Array.getElem?_eq_some_iff.1 hit).1
    have HJI := Lib.hid hJi; have HCP := Lib.hid hC'; have HON := Lib.hid hOn; have HIT := Lib.hid hit; have HNC := Lib.hid hnC; have HCC := Lib.hid hcc; have HWK := Lib.hid hwk; have HB := Lib.hid hb; have HRL := Lib.hid hrl
    clear hJi hC' hOn hnC hcc hwk hrl
    rcases run_next_at (P := Tryz.prog) wr 0 W.heap.size wb clock c0 seen es clock hit hb HS.out.1 HCC.out with ⟨h0, hrun⟩ | ⟨e, he, w1, hal, hrun⟩
    · have HE := Lib.hid h0
      clear h0 hit hb hrange
      gi_wp2_with fail
      go_end0
      exact ⟨⟨_, rfl⟩, HON.out, C', HCP.out, .inl ⟨_, walked_end HR.out HS.out HWK.out hk HE.out, HJI.out⟩⟩
    · obtain ⟨a, hkey, hin, hnin, hwk2⟩ := walked_next HR.out HWK.out hk he
      rw [setBlock_put] at hrun
      have hs1 : w1.heap.size = wr.heap.size := by rcases hal with rfl | rfl <;> rfl
      have hh1 : w1.heap = wr.heap := by rcases hal with rfl | rfl <;> rfl
      obtain ⟨W2, hW2⟩ : ∃ W2, w1.putObj W.heap.size (.mapIter (some wb) clock (seen.push e.born) clock) = W2 := ⟨_, rfl⟩
      rw [hW2] at hrun
      have hit2 : W2.heap[W.heap.size]? = some (.mapIter (some wb) clock (seen.push e.born) clock) := by rw [← hW2]; exact World.putObj_heap_same (by omega)
      have hsz2 : W2.heap.size = wr.heap.size := by rw [← hW2]; simp [World.putObj, hs1]
      have hold2 : ∀ k, k ≠ W.heap.size → W2.heap[k]? = wr.heap[k]? := fun k hk => by rw [← hW2, World.putObj_heap_other hk, hh1]
      have hO2 : Only (fun k => k = W.heap.size) wr W2 := by
        rw [← hW2]
        refine Only.trans ?_ (only_putObj (B := fun k => k = W.heap.size) w1 rfl _)
        rcases hal with rfl | rfl
        · exact Only.refl _ _
        · exact (Only.refl _ wr).drew
      have hb2 : W2.heap[wb]? = some (.map es clock) := (hold2 wb (by omega)).trans HB.out
      have hent := run_entry_at (P := Tryz.prog) W2 W.heap.size wb clock seen es clock e hit2 hb2 (mem_left he).1 HS.out.2
      rw [hkey] at hrun hent
      have hlt2 := left_shrinks es seen e he
      have hpb : (W2.alloc (.cells #[.string ⟨a.1.toArray⟩, .int .i64 a.2] 64)).heap[wr.heap.size]? = some (.cells #[.string ⟨a.1.toArray⟩, .int .i64 a.2] 64) := by rw [← hsz2]; exact World.alloc_heap_new W2 _
      have hJ1 := HJ.out _ C' wr (W2.alloc (.cells #[.string ⟨a.1.toArray⟩, .int .i64 a.2] 64)) HJI.out (fun k hk => by
        have h1 : k < wr.heap.size ∧ k ≠ W.heap.size := by
          rcases hk with h | h
          · exact ⟨(HCP.out k h).2, fun e => HNC.out (e ▸ h)⟩
          · have h1 := (HOWN.out k h).1
            have h2 := HON.out.size
            constructor
            · omega
            · omega
        exact (Below.heap_alloc _ _ _ (by omega)).trans (hold2 k h1.2)) (by simp; omega)
      obtain ⟨fn, tmps, assign, body, hyl, hRd⟩ := HY.out _ C' a _ ⟨hin, hnin⟩ hJ1 (fun k hk => by have := (HCP.out k hk).2; simp; omega)
      have HRD := Lib.hid hRd; have HPB := Lib.hid hpb; have HIT2 := Lib.hid hit2; have HO2 := Lib.hid hO2; have HWK2 := Lib.hid hwk2; have HLT2 := Lib.hid hlt2; have HB2 := Lib.hid hb2; have HSZ2 := Lib.hid hsz2; have HOLD2 := Lib.hid hold2
      clear hRd hpb hit2 hO2 hwk2 hlt2 hb2 hJ1 hal hs1 hh1 hW2 hit hb hrange hin hnin hkey he hold2
      simp only [encEdge] at hyl hrun hent
      gi_wp2_with fail
      refine ⟨rfl, HRD.out.mono ?_⟩
      rintro e3 W3 ⟨hO3, C'', hC'', hend⟩
      have hz3 := hO3.size
      simp only [World.size_alloc] at hz3
      have hz2 := HSZ2.out
      have hmine : ∀ k, Mine C' (W2.heap.size + 1) k → Mine C W.heap.size k := by
        rintro k (h | h)
        · exact (HCP.out k h).1
        · exact .inr (by omega)
      have hrbn : ¬ Mine C' (W2.heap.size + 1) W.heap.size := by
        rintro (h | h)
        · exact HNC.out h
        · omega
      have hO13 : Only (Mine C W.heap.size) W W3 :=
        ((HON.out.trans (HO2.out.mono (fun k (hk : k = W.heap.size) => .inr (by omega)))).alloc (fun k hk => .inr (by omega)) _).trans (hO3.mono (fun k hk => hmine k (by simpa using hk)))
      have hit3 : W3.heap[W.heap.size]? = some (.mapIter (some wb) clock (seen.push e.born) clock) :=
        (hO3.block _ (by simpa using hrbn)).trans ((Below.heap_alloc _ _ _ (by omega)).trans HIT2.out)
      have hC3 : ∀ k, C'' k → Mine C W.heap.size k ∧ k < W3.heap.size := fun k hk => ⟨hmine k (by simpa using (hC'' k hk).1), (hC'' k hk).2⟩
      have hb3 : W3.heap[wb]? = some (.map es clock) := (hO13.block wb HWC.out).trans HM0.out
      have HO13 := Lib.hid hO13; have HC3 := Lib.hid hC3
      have hrl3 : W3.rangeLeft wb W.heap.size = (leftOf es (seen.push e.born)).size := by simp only [World.rangeLeft, hb3, hit3]
      rcases hend with ⟨rfl, hJ3⟩ | ⟨rfl, hJx3⟩
      · have hK : KInv J C W wb es clock kv W3 := by
          refine ⟨ds ++ [(e, a)], seen.push e.born, clock, C'', by rw [List.map_append]; exact hJ3, hC3, hO13, hit3, fun h => hrbn (by simpa using (hC'' _ h).1), Nat.le_refl _, HWK2.out⟩
        have HK := Lib.hid hK; have HRL3 := Lib.hid hrl3
        clear hK hJ3 hC'' hO3 hO13 hit3 hC3 hb3 hz3 hz2 hmine hrbn hrl3 hrun hent hyl
        gi_wp2_with fail
        go_roundw
        case rel => exact HK.out
        case measure => rw [HRL3.out, HRL.out]; exact HLT2.out
      · have HJX3 := Lib.hid hJx3
        clear hJx3 hC'' hO3 hO13 hit3 hC3 hb3 hz3 hz2 hmine hrbn hrl3 hrun hent hyl
        gi_wp2_with fail
        refine bodyPost_ret (results_none rfl _ _ _) rfl ?_
        exact ⟨⟨_, rfl⟩, HO13.out, C'', HC3.out, .inr ⟨_, HJX3.out⟩⟩
end Go.Proofs.YtbfnnlcckpabnaaGreat

/- The iterator over the things' keys. -/
namespace Go.Proofs.YtbfnnlcckpabnaaGreat
set_option linter.unusedSimpArgs false
set_option linter.unusedVariables false
open Go.RowKit

attribute [local go_sem] Oper.semAt_some

set_option maxRecDepth 100000 in
set_option maxHeartbeats 4000000 in
theorem keys_iterS {w : World} {wb : Nat} {kv : Things} (h : MapAt w str str wb kv) (hk : (kv.map (·.1)).Nodup) (xb : Nat) (hx : w.cell? ⟨xb, 0, none⟩ = some (.map (some wb))) :
    IterL Tryz.prog 90 #[.pointer (some ⟨xb, 0, none⟩)] (fun k => #[str k]) (kv.map (·.1)) (fun k => k = xb ∨ k = wb) w := by
  intro l J Jx C W hW hOwn hJ hJx hY h0 hC
  refine callsIn_wide.2 ?_
  obtain ⟨es, clock, hm, hr, hs⟩ := h
  have hm0 : W.heap[wb]? = some (.map es clock) := (hOwn wb (.inr rfl)).2.1.trans hm
  have cx : W.cell? ⟨xb, 0, none⟩ = some (.map (some wb)) := (World.cell?_of_block (w := w) (a := ⟨xb, 0, none⟩) (hOwn xb (.inl rfl)).2.1).trans hx
  have hrange := run_range_map W 55 _ _ wb es clock Tryz.underlying55 hm0
  have hwl : wb < W.heap.size := (Array.getElem?_eq_some_iff.1 hm0).1
  have hwC : ¬ Mine C W.heap.size wb := by
    rintro (h | h)
    · exact (hOwn wb (.inr rfl)).2.2 h
    · omega
  have hinv : KInv J C W wb es clock kv (W.alloc (.mapIter (some wb) clock #[] clock)) := by
    refine ⟨[], #[], clock, C, hJ [] C W _ h0 (fun k hk => Below.heap_alloc _ _ _ (hk.elim (hC k) (fun h => Nat.lt_of_lt_of_le (hOwn k h).1 hW))) (by simp), fun k hk => ⟨.inl hk, by have := hC k hk; simp; omega⟩,
      (Only.refl _ W).alloc (fun k hk => .inr hk) _, World.alloc_heap_new _ _, fun h => by have := hC _ h; omega, Nat.le_refl _, walked_nil _ _⟩
  have HOWN := Lib.hid hOwn; have HJ := Lib.hid hJ; have HJX := Lib.hid hJx; have HY := Lib.hid hY; have HC := Lib.hid hC
  have HM0 := Lib.hid hm0; have HR := Lib.hid hr; have HS := Lib.hid hs; have HINV := Lib.hid hinv; have HWC := Lib.hid hwC
  clear hOwn hJ hJx hY h0 hC hm0 hr hs hinv hwC hm hx
  go_enter Tryz.func90, Tryz.ntmps90
  refine (wpIn_wide (n := 0)).1 ?_
  gi_wp2_with fail
  gi_loopw [3] (fun v wr => KInv J C W wb es clock kv wr) (fun v wr => wr.rangeLeft wb W.heap.size)
  case atStart => exact HINV.out
  case round =>
    obtain ⟨ds, seen, c0, C', hJi, hC', hOn, hit, hnC, hcc, hwk⟩ := hrel
    have hb : wr.heap[wb]? = some (.map es clock) := (hOn.block wb HWC.out).trans HM0.out
    have hrl : wr.rangeLeft wb W.heap.size = (leftOf es seen).size := by simp only [World.rangeLeft, hb, hit]
    have hitl : W.heap.size < wr.heap.size := (Array.getElem?_eq_some_iff.1 hit).1
    have HJI := Lib.hid hJi; have HCP := Lib.hid hC'; have HON := Lib.hid hOn; have HIT := Lib.hid hit; have HNC := Lib.hid hnC; have HCC := Lib.hid hcc; have HWK := Lib.hid hwk; have HB := Lib.hid hb; have HRL := Lib.hid hrl
    clear hJi hC' hOn hnC hcc hwk hrl
    rcases run_next_at (P := Tryz.prog) wr 0 W.heap.size wb clock c0 seen es clock hit hb HS.out.1 HCC.out with ⟨h0, hrun⟩ | ⟨e, he, w1, hal, hrun⟩
    · have HE := Lib.hid h0
      clear h0 hit hb hrange
      gi_wp2_with fail
      go_end0
      exact ⟨⟨_, rfl⟩, HON.out, C', HCP.out, .inl ⟨_, walked_end HR.out HS.out HWK.out hk HE.out, HJI.out⟩⟩
    · obtain ⟨a, hkey, hin, hnin, hwk2⟩ := walked_next HR.out HWK.out hk he
      rw [setBlock_put] at hrun
      have hs1 : w1.heap.size = wr.heap.size := by rcases hal with rfl | rfl <;> rfl
      have hh1 : w1.heap = wr.heap := by rcases hal with rfl | rfl <;> rfl
      obtain ⟨W2, hW2⟩ : ∃ W2, w1.putObj W.heap.size (.mapIter (some wb) clock (seen.push e.born) clock) = W2 := ⟨_, rfl⟩
      rw [hW2] at hrun
      have hit2 : W2.heap[W.heap.size]? = some (.mapIter (some wb) clock (seen.push e.born) clock) := by rw [← hW2]; exact World.putObj_heap_same (by omega)
      have hsz2 : W2.heap.size = wr.heap.size := by rw [← hW2]; simp [World.putObj, hs1]
      have hold2 : ∀ k, k ≠ W.heap.size → W2.heap[k]? = wr.heap[k]? := fun k hk => by rw [← hW2, World.putObj_heap_other hk, hh1]
      have hO2 : Only (fun k => k = W.heap.size) wr W2 := by
        rw [← hW2]
        refine Only.trans ?_ (only_putObj (B := fun k => k = W.heap.size) w1 rfl _)
        rcases hal with rfl | rfl
        · exact Only.refl _ _
        · exact (Only.refl _ wr).drew
      have hb2 : W2.heap[wb]? = some (.map es clock) := (hold2 wb (by omega)).trans HB.out
      have hent := run_entry_at (P := Tryz.prog) W2 W.heap.size wb clock seen es clock e hit2 hb2 (mem_left he).1 HS.out.2
      rw [hkey] at hrun hent
      have hlt2 := left_shrinks es seen e he
      have hJ1 := HJ.out _ C' wr W2 HJI.out (fun k hk => by
        have h1 : k < wr.heap.size ∧ k ≠ W.heap.size := by
          rcases hk with h | h
          · exact ⟨(HCP.out k h).2, fun e => HNC.out (e ▸ h)⟩
          · have h1 := (HOWN.out k h).1
            have h2 := HON.out.size
            constructor
            · omega
            · omega
        exact hold2 k h1.2) (by omega)
      obtain ⟨fn, tmps, assign, body, hyl, hRd⟩ := HY.out _ C' a _ ⟨hin, hnin⟩ hJ1 (fun k hk => by have := (HCP.out k hk).2; omega)
      have HRD := Lib.hid hRd; have HIT2 := Lib.hid hit2; have HO2 := Lib.hid hO2; have HWK2 := Lib.hid hwk2; have HLT2 := Lib.hid hlt2; have HB2 := Lib.hid hb2; have HSZ2 := Lib.hid hsz2; have HOLD2 := Lib.hid hold2
      clear hRd hit2 hO2 hwk2 hlt2 hb2 hJ1 hal hs1 hh1 hW2 hit hb hrange hin hnin hkey he hold2
      simp only [str] at hyl hrun hent
      gi_wp2_with fail
      refine ⟨rfl, HRD.out.mono ?_⟩
      rintro e3 W3 ⟨hO3, C'', hC'', hend⟩
      have hz3 := hO3.size
      have hz2 := HSZ2.out
      have hmine : ∀ k, Mine C' (W2.heap.size) k → Mine C W.heap.size k := by
        rintro k (h | h)
        · exact (HCP.out k h).1
        · exact .inr (by omega)
      have hrbn : ¬ Mine C' (W2.heap.size) W.heap.size := by
        rintro (h | h)
        · exact HNC.out h
        · omega
      have hO13 : Only (Mine C W.heap.size) W W3 :=
        ((HON.out.trans (HO2.out.mono (fun k (hk : k = W.heap.size) => .inr (by omega))))).trans (hO3.mono (fun k hk => hmine k (hk)))
      have hit3 : W3.heap[W.heap.size]? = some (.mapIter (some wb) clock (seen.push e.born) clock) :=
        (hO3.block _ (hrbn)).trans HIT2.out
      have hC3 : ∀ k, C'' k → Mine C W.heap.size k ∧ k < W3.heap.size := fun k hk => ⟨hmine k ((hC'' k hk).1), (hC'' k hk).2⟩
      have hb3 : W3.heap[wb]? = some (.map es clock) := (hO13.block wb HWC.out).trans HM0.out
      have HO13 := Lib.hid hO13; have HC3 := Lib.hid hC3
      have hrl3 : W3.rangeLeft wb W.heap.size = (leftOf es (seen.push e.born)).size := by simp only [World.rangeLeft, hb3, hit3]
      rcases hend with ⟨rfl, hJ3⟩ | ⟨rfl, hJx3⟩
      · have hK : KInv J C W wb es clock kv W3 := by
          refine ⟨ds ++ [(e, a)], seen.push e.born, clock, C'', by rw [List.map_append]; exact hJ3, hC3, hO13, hit3, fun h => hrbn ((hC'' _ h).1), Nat.le_refl _, HWK2.out⟩
        have HK := Lib.hid hK; have HRL3 := Lib.hid hrl3
        clear hK hJ3 hC'' hO3 hO13 hit3 hC3 hb3 hz3 hz2 hmine hrbn hrl3 hrun hent hyl
        gi_wp2_with fail
        go_roundw
        case rel => exact HK.out
        case measure => rw [HRL3.out, HRL.out]; exact HLT2.out
      · have HJX3 := Lib.hid hJx3
        clear hJx3 hC'' hO3 hO13 hit3 hC3 hb3 hz3 hz2 hmine hrbn hrl3 hrun hent hyl
        gi_wp2_with fail
        refine bodyPost_ret (results_none rfl _ _ _) rfl ?_
        exact ⟨⟨_, rfl⟩, HO13.out, C'', HC3.out, .inr ⟨_, HJX3.out⟩⟩
end Go.Proofs.YtbfnnlcckpabnaaGreat
