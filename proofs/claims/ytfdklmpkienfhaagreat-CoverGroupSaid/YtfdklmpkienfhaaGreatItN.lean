/- A range over a function whose body is told of its record, and one inside a round. Printed by mkitn.py, turned from XIterS. -/
import Derived.RangeFuncNested
import Derived.RangeFuncRecord
import Derived.Test.YtfdklmpkienfhaaGreatIter
namespace Go.Proofs.YtfdklmpkienfhaaGreat
set_option linter.unusedSimpArgs false
set_option linter.unusedVariables false
open Go.RowKit

section
variable {P : Program}

/-- The contract of an iterator that yields n times; it reads the blocks of Own and changes those of Sh. -/
def IterS (P : Program) (g : FuncId) (lb : Array Value) (n : Nat) (S : Nat → (Nat → Prop) → Array Value → World → Prop) (Own Sh : Nat → Prop) (w : World) : Prop :=
  ∀ (l : Nat) (J Jx : Nat → (Nat → Prop) → World → Prop) (C : Nat → Prop) (W : World), w.heap.size ≤ W.heap.size →
    (∀ k, Own k → k < w.heap.size ∧ W.heap[k]? = w.heap[k]? ∧ ¬ C k) → (∀ k, Sh k → k < w.heap.size ∧ W.heap[k]? = w.heap[k]? ∧ ¬ C k) → Stable Own J → Stable Own Jx →
    (∀ i C args W1, i < n → S i C args W1 → J i C W1 → (∀ k, C k → k < W1.heap.size) → YieldAt Fence.wide 0 P l args W1 (RoundEnd J Jx i C W1)) →
    J 0 C W → (∀ k, C k → k < W.heap.size) →
    CallsIn Fence.wide 0 P g (#[.func (.yield l) #[] #[]] ++ lb) W fun e W' => (∃ v, e = .returned v) ∧ Only (fun k => Mine C W.heap.size k ∨ Sh k) W W' ∧
      ∃ C' : Nat → Prop, (∀ k, C' k → Mine C W.heap.size k ∧ k < W'.heap.size) ∧ (J n C' W' ∨ ∃ i, i ≤ n ∧ Jx i C' W')

/-- **The law of a range over a function.** -/
theorem wp_rangeT {g : Operand} {ps : Array Tmp} {assign body : Code} {Q : Exit → Act → World → Prop} {a : Act} {w : World} {gf : Nat} {lb : Array Value}
    (hg : a.eval g = .func (.func gf) #[] lb) (eg : ∀ args w, (callFunc gf args).run P w = .ok (.enter gf args) w)
    {n : Nat} {S : Nat → (Nat → Prop) → Array Value → World → Prop} {Own Sh : Nat → Prop} {w0 : World} (hseq : IterS P gf lb n S Own Sh w0) (h0w : w0.heap.size ≤ w.heap.size) (hps : ∀ i C args W, S i C args W → args.size = ps.size)
    (I : Nat → (Nat → Prop) → World → Prop) (Ix : Code → Nat → (Nat → Prop) → World → Prop) (hI : Stable Own I) (hIx : ∀ c, Stable Own (Ix c))
    (C0 : Nat → Prop) (hC0 : ∀ k, C0 k → k < w.heap.size) (hOwn : ∀ k, Own k → k < w0.heap.size ∧ w.heap[k]? = w0.heap[k]? ∧ ¬ C0 k) (hSh : ∀ k, Sh k → k < w0.heap.size ∧ w.heap[k]? = w0.heap[k]? ∧ ¬ C0 k) (h0 : I 0 C0 w)
    (hround : ∀ (l i : Nat) (C : Nat → Prop) (args : Array Value) (W : World), i < n → S i (fun k => C k ∨ k = w.heap.size ∨ k = l) args W → I i C W → (∀ k, C k → k < W.heap.size) → w.heap.size < W.heap.size → ¬ C l → l < W.heap.size → (∀ k, Own k → k ≠ l) →
      assign.wpIn (Fence.wide.inRound l) 0 P (Exit.then (fun a1 W1 => Only (Mine C W.heap.size) W W1 ∧ ∀ W2 : World, W2.heap.size = W1.heap.size → (∀ k, k ≠ l → W2.heap[k]? = W1.heap[k]?) → (∃ r, W2.heap[l]? = some (.loop r)) →
          body.wpIn (Fence.wide.inRound l) 0 P (roundPostC I Ix i C W.heap.size W2) a1 W2) (fun _ _ _ => False))
        { tmps := (ps.zip args).foldl (fun t (p, v) => t.setIfInBounds p v) a.tmps, defers := [] } W)
    (hdone : ∀ (D : Nat) (C : Nat → Prop) (W : World), w.heap.size ≤ D → ¬ C D → I n C W → Only (fun k => Mine C0 w.heap.size k ∨ Sh k) w W → W.heap[D]? = some (.deferred (some [])) → Q .normal { a with defers := { target := .collected D, args := #[] } :: a.defers } W)
    (hstop : ∀ (D i : Nat) (c : Code) (C : Nat → Prop) (W : World), w.heap.size ≤ D → ¬ C D → i ≤ n → Ix c i C W → Only (fun k => Mine C0 w.heap.size k ∨ Sh k) w W → W.heap[D]? = some (.deferred (some [])) → c.wp P Q { a with defers := { target := .collected D, args := #[] } :: a.defers } W) :
    (Code.rangeFunc g ps assign body).wp P Q a w := by
  refine (wpIn_wide (n := 0)).1 ?_
  refine wpIn_rangeFunc ?_
  intro fn hfn
  show ∃ l mark w₁ d w₁' f args w₂, (Instr.enterLoop fn a.tmps ps assign body none).run P w = .ok (l, mark) w₁ ∧ _
  obtain ⟨rec, hrec⟩ : ∃ rec : LoopState → Option Code → Loop, rec = fun st pe => { state := st, pending := pe, fn, tmps := a.tmps, params := ps, assign, body, defers := w.heap.size } := ⟨_, rfl⟩
  obtain ⟨W1, hW1⟩ : ∃ W1, (w.alloc (.deferred (some []))).alloc (.loop (rec .ready none)) = W1 := ⟨_, rfl⟩
  have hs1 : W1.heap.size = w.heap.size + 2 := by rw [← hW1]; simp
  have hold : ∀ k, k < w.heap.size → W1.heap[k]? = w.heap[k]? := fun k hk => by
    rw [← hW1]; exact (Below.heap_alloc _ _ k (by simp; omega)).trans (Below.heap_alloc _ _ k hk)
  have hL1 : W1.heap[w.heap.size + 1]? = some (.loop (rec .ready none)) := by
    rw [← hW1]; have := World.alloc_heap_new (w.alloc (.deferred (some []))) (.loop (rec .ready none)); rwa [World.size_alloc] at this
  have hK1 : W1.heap[w.heap.size]? = some (.deferred (some [])) := by
    rw [← hW1]; exact (Below.heap_alloc _ _ _ (by simp)).trans (World.alloc_heap_new w _)
  have hO1 : Only (Mine C0 w.heap.size) w W1 := by
    rw [← hW1]; exact ((Only.refl _ w).alloc (fun k hk => .inr hk) _).alloc (fun k hk => .inr hk) _
  refine ⟨w.heap.size + 1, [{ target := .collected w.heap.size, args := #[] }], W1, { target := .fn (.func gf) lb, args := #[.func (.yield (w.heap.size + 1)) #[] #[]] }, W1, gf,
    #[.func (.yield (w.heap.size + 1)) #[] #[]] ++ lb, W1, ?_, ?_, fun f' _ => trivial, ?_, fun h => by simp [Fence.wide] at h, ?_⟩
  · rw [← hW1, hrec]; exact run_enterLoop_outer _ _ _ _ _
  · simp only [resolve, hg]
    simp [go_sem]
  · simp [invoke, go_sem, eg]
  · -- the footprint: the caller's blocks, the record and the block for the rounds' deferred calls
    refine (hseq (w.heap.size + 1)
      (fun i C W => ∃ C1 : Nat → Prop, (∀ k, C k ↔ C1 k ∨ k = w.heap.size ∨ k = w.heap.size + 1) ∧ (∀ k, C1 k → k ≠ w.heap.size ∧ k ≠ w.heap.size + 1) ∧ I i C1 W ∧ W.heap[w.heap.size + 1]? = some (.loop (rec .ready none)) ∧ W.heap[w.heap.size]? = some (.deferred (some [])))
      (fun i C W => ∃ C1 : Nat → Prop, (∀ k, C k ↔ C1 k ∨ k = w.heap.size ∨ k = w.heap.size + 1) ∧ (∀ k, C1 k → k ≠ w.heap.size ∧ k ≠ w.heap.size + 1) ∧ ∃ c, Ix c i C1 W ∧ W.heap[w.heap.size + 1]? = some (.loop (rec .done (some c))) ∧ W.heap[w.heap.size]? = some (.deferred (some [])))
      (fun k => C0 k ∨ k = w.heap.size ∨ k = w.heap.size + 1) W1 (by omega)
      (fun k hk => ?_) (fun k hk => ?_) ?_ ?_ ?_ ?_ ?_).mono ?_
    · obtain ⟨h1, h2, h3⟩ := hOwn k hk
      refine ⟨h1, (hold k (by omega)).trans h2, ?_⟩
      rintro (h | h | h)
      · exact h3 h
      · omega
      · omega
    · obtain ⟨h1, h2, h3⟩ := hSh k hk
      refine ⟨h1, (hold k (by omega)).trans h2, ?_⟩
      rintro (h | h | h)
      · exact h3 h
      · omega
      · omega
    · rintro i C W W' ⟨C1, hC1, hne, hi, hl, hk⟩ hsame hsz
      exact ⟨C1, hC1, hne, hI i C1 W W' hi (fun k h => hsame k (h.imp (fun h => (hC1 k).2 (.inl h)) id)) hsz, (hsame _ (.inl ((hC1 _).2 (.inr (.inr rfl))))).trans hl, (hsame _ (.inl ((hC1 _).2 (.inr (.inl rfl))))).trans hk⟩
    · rintro i C W W' ⟨C1, hC1, hne, c, hi, hl, hk⟩ hsame hsz
      exact ⟨C1, hC1, hne, c, hIx c i C1 W W' hi (fun k h => hsame k (h.imp (fun h => (hC1 k).2 (.inl h)) id)) hsz, (hsame _ (.inl ((hC1 _).2 (.inr (.inr rfl))))).trans hl, (hsame _ (.inl ((hC1 _).2 (.inr (.inl rfl))))).trans hk⟩
    · -- one round
      rintro i C args W hin hS ⟨C1, hC1, hne, hi, hl, hk⟩ hCs
      have hCe : C = fun k => C1 k ∨ k = w.heap.size ∨ k = w.heap.size + 1 := funext fun k => propext (hC1 k)
      have hlt : w.heap.size + 1 < W.heap.size := (Array.getElem?_eq_some_iff.1 hl).1
      have hy := run_yield (P := P) (args := args) hl (by rw [hrec]; exact hps _ _ _ _ hS)
      rw [hrec] at hy
      have hr := hround (w.heap.size + 1) i C1 args W hin (by rw [← hCe]; exact hS) hi (fun k h => hCs k ((hC1 k).2 (.inl h))) (by omega) (fun h => (hne _ h).2 rfl) hlt (fun k hk => by have := (hOwn k hk).1; omega)
      refine ⟨fn, _, assign, body, hy, roundIn_of_wpIn hfn (wpIn_mono hr ?_)⟩
      rintro e a1 W2 hp
      cases e with
      | normal =>
        obtain ⟨hO, hbody⟩ := hp
        have hnl : ∀ k, k = w.heap.size ∨ k = w.heap.size + 1 → ¬ Mine C1 W.heap.size k := by
          rintro k hk1 (h | h)
          · have := hne k h; omega
          · omega
        have hl2 : W2.heap[w.heap.size + 1]? = some (.loop (rec .ready none)) := (hO.block _ (hnl _ (.inr rfl))).trans hl
        have hk2 : W2.heap[w.heap.size]? = some (.deferred (some [])) := (hO.block _ (hnl _ (.inl rfl))).trans hk
        have hlt2 : w.heap.size + 1 < W2.heap.size := (Array.getElem?_eq_some_iff.1 hl2).1
        refine ⟨_, run_beginRound hl2 (by rw [hrec]), ?_⟩
        refine wpIn_mono (hbody _ (by simp [World.putObj]) (fun k hk => World.putObj_heap_other hk) ⟨_, World.putObj_heap_same hlt2⟩) ?_
        have fin : ∀ (jump : Option Code) (W3 : World), Only (Mine C1 W.heap.size) (W2.putObj (w.heap.size + 1) (.loop { rec .ready none with state := .busy })) W3 →
            (Instr.endRound (w.heap.size + 1) jump).run P W3 = .ok (.bool jump.isNone) (W3.putObj (w.heap.size + 1) (.loop (rec (if jump.isNone then .ready else .done) jump))) ∧
            (W3.putObj (w.heap.size + 1) (.loop (rec (if jump.isNone then .ready else .done) jump))).heap[w.heap.size + 1]? = some (.loop (rec (if jump.isNone then .ready else .done) jump)) ∧
            (W3.putObj (w.heap.size + 1) (.loop (rec (if jump.isNone then .ready else .done) jump))).heap[w.heap.size]? = some (.deferred (some [])) ∧
            Only (Mine C W.heap.size) W (W3.putObj (w.heap.size + 1) (.loop (rec (if jump.isNone then .ready else .done) jump))) := fun jump W3 hO3 => by
          have hl3 : W3.heap[w.heap.size + 1]? = some (.loop { rec .ready none with state := .busy }) := (hO3.block _ (hnl _ (.inr rfl))).trans (World.putObj_heap_same hlt2)
          have hk3 : W3.heap[w.heap.size]? = some (.deferred (some [])) := (hO3.block _ (hnl _ (.inl rfl))).trans ((World.putObj_heap_other (by omega)).trans hk2)
          have := run_endRound (P := P) jump hl3
          rw [hrec] at this ⊢
          have hm : ∀ k, Mine C1 W.heap.size k → Mine C W.heap.size k := fun k h => by
            rcases h with h | h
            · exact .inl ((hC1 k).2 (.inl h))
            · exact .inr h
          refine ⟨this, World.putObj_heap_same (Array.getElem?_eq_some_iff.1 hl3).1, (World.putObj_heap_other (by omega)).trans hk3, ?_⟩
          exact (((hO.mono hm).trans (only_putObj W2 (.inl ((hC1 _).2 (.inr (.inr rfl)))) _)).trans (by rw [hrec] at hO3; exact hO3.mono hm)).trans (only_putObj W3 (.inl ((hC1 _).2 (.inr (.inr rfl)))) _)
        have foot : ∀ (C' : Nat → Prop) (W3 : World) (o : Obj), Only (Mine C1 W.heap.size) (W2.putObj (w.heap.size + 1) (.loop { rec .ready none with state := .busy })) W3 → (∀ k, C' k → Mine C1 W.heap.size k ∧ k < W3.heap.size) →
            (∀ k, (C' k ∨ k = w.heap.size ∨ k = w.heap.size + 1) → Mine C W.heap.size k ∧ k < (W3.putObj (w.heap.size + 1) o).heap.size) ∧ (∀ k, C' k → k ≠ w.heap.size ∧ k ≠ w.heap.size + 1) := fun C' W3 o hO3 hC' => by
          have hsz3 : W2.heap.size ≤ W3.heap.size := by have := hO3.size; simpa [World.putObj] using this
          refine ⟨?_, ?_⟩
          · rintro k (h | h | h)
            · obtain ⟨h1, h2⟩ := hC' k h
              refine ⟨?_, by simpa [World.putObj] using h2⟩
              rcases h1 with h1 | h1
              · exact .inl ((hC1 k).2 (.inl h1))
              · exact .inr h1
            · exact ⟨.inl ((hC1 k).2 (.inr (.inl h))), by simp [World.putObj]; omega⟩
            · exact ⟨.inl ((hC1 k).2 (.inr (.inr h))), by simp [World.putObj]; omega⟩
          · intro k h
            obtain ⟨h1, _⟩ := hC' k h
            rcases h1 with h1 | h1
            · exact hne k h1
            · omega
        have still : ∀ (C' : Nat → Prop) (W3 : World) (o : Obj), (∀ k, C' k → k ≠ w.heap.size ∧ k ≠ w.heap.size + 1) → ∀ k, C' k ∨ Own k → (W3.putObj (w.heap.size + 1) o).heap[k]? = W3.heap[k]? := fun C' W3 o h k hk => World.putObj_heap_other (by
          rcases hk with hk | hk
          · exact (h k hk).2
          · have := (hOwn k hk).1; omega)
        rintro e a3 W3 hp
        cases e with
        | normal =>
          obtain ⟨hO3, C', hC', hi3⟩ := hp
          obtain ⟨hr, hl4, hk4, hO4⟩ := fin none W3 hO3
          obtain ⟨hf1, hf2⟩ := foot C' W3 (.loop (rec .ready none)) hO3 hC'
          exact ⟨_, _, hr, hO4, fun k => C' k ∨ k = w.heap.size ∨ k = w.heap.size + 1, hf1, .inl ⟨rfl, C', fun k => Iff.rfl, hf2, hI _ C' W3 _ hi3 (still C' W3 _ hf2) (by simp [World.putObj]), hl4, hk4⟩⟩
        | ret =>
          obtain ⟨hO3, C', hC', hi3⟩ := hp
          obtain ⟨hr, hl4, hk4, hO4⟩ := fin (some .ret) W3 hO3
          obtain ⟨hf1, hf2⟩ := foot C' W3 (.loop (rec .done (some .ret))) hO3 hC'
          exact ⟨_, _, hr, hO4, fun k => C' k ∨ k = w.heap.size ∨ k = w.heap.size + 1, hf1, .inr ⟨rfl, C', fun k => Iff.rfl, hf2, .ret, hIx _ _ C' W3 _ hi3 (still C' W3 _ hf2) (by simp [World.putObj]), hl4, hk4⟩⟩
        | exit id =>
          obtain ⟨hO3, C', hC', hi3⟩ := hp
          obtain ⟨hr, hl4, hk4, hO4⟩ := fin (some (.exit id)) W3 hO3
          obtain ⟨hf1, hf2⟩ := foot C' W3 (.loop (rec .done (some (.exit id)))) hO3 hC'
          exact ⟨_, _, hr, hO4, fun k => C' k ∨ k = w.heap.size ∨ k = w.heap.size + 1, hf1, .inr ⟨rfl, C', fun k => Iff.rfl, hf2, .exit id, hIx _ _ C' W3 _ hi3 (still C' W3 _ hf2) (by simp [World.putObj]), hl4, hk4⟩⟩
        | goto t =>
          obtain ⟨hO3, C', hC', hi3⟩ := hp
          obtain ⟨hr, hl4, hk4, hO4⟩ := fin (some (.goto t)) W3 hO3
          obtain ⟨hf1, hf2⟩ := foot C' W3 (.loop (rec .done (some (.goto t)))) hO3 hC'
          exact ⟨_, _, hr, hO4, fun k => C' k ∨ k = w.heap.size ∨ k = w.heap.size + 1, hf1, .inr ⟨rfl, C', fun k => Iff.rfl, hf2, .goto t, hIx _ _ C' W3 _ hi3 (still C' W3 _ hf2) (by simp [World.putObj]), hl4, hk4⟩⟩
        | panic ch => exact hp.elim
        | outgrown => exact hp.elim
      | ret => exact hp.elim
      | exit id => exact hp.elim
      | goto t => exact hp.elim
      | panic ch => exact hp.elim
      | outgrown => exact hp.elim
    · exact ⟨C0, fun k => Iff.rfl, fun k h => by have := hC0 k h; omega, hI 0 C0 w W1 h0 (fun k h => hold k (h.elim (hC0 k) (fun h => Nat.lt_of_lt_of_le (hOwn k h).1 h0w))) (by omega), hL1, hK1⟩
    · rintro k (h | h | h)
      · have := hC0 k h; omega
      · omega
      · omega
    · -- behind the iterator
      rintro e W2 ⟨⟨v, rfl⟩, hO2, C', hC', hJ⟩
      have hmine : ∀ k, Mine (fun k => C0 k ∨ k = w.heap.size ∨ k = w.heap.size + 1) W1.heap.size k → Mine C0 w.heap.size k := by
        rintro k ((h | h | h) | h)
        · exact .inl h
        · exact .inr (by omega)
        · exact .inr (by omega)
        · exact .inr (by omega)
      have hOw : Only (fun k => Mine C0 w.heap.size k ∨ Sh k) w W2 := (hO1.mono (fun k h => .inl h)).trans (hO2.mono (fun k h => h.imp (hmine k) id))
      rcases hJ with ⟨C1, hC1, hne, hi, hl, hk⟩ | ⟨i, hile, C1, hC1, hne, c, hi, hl, hk⟩
      · have hel := run_endLoop (P := P) hl (by rw [hrec]; simp)
        rw [hrec] at hel
        refine ⟨none, _, hel, ?_⟩
        exact hdone w.heap.size C1 _ (Nat.le_refl _) (fun h => (hne _ h).1 rfl) (hI _ C1 W2 _ hi (fun k h => World.putObj_heap_other (h.elim (fun h => (hne k h).2) (fun h => by have := (hOwn k h).1; omega))) (by simp [World.putObj])) (hOw.trans (only_putObj W2 (.inl (.inr (by omega))) _)) ((World.putObj_heap_other (by omega)).trans hk)
      · have hel := run_endLoop (P := P) hl (by rw [hrec]; simp)
        rw [hrec] at hel
        refine ⟨some c, _, hel, ?_⟩
        refine (wpIn_wide (n := 0)).2 ?_
        exact hstop w.heap.size i c C1 _ (Nat.le_refl _) (fun h => (hne _ h).1 rfl) hile (hIx c _ C1 W2 _ hi (fun k h => World.putObj_heap_other (h.elim (fun h => (hne k h).2) (fun h => by have := (hOwn k h).1; omega))) (by simp [World.putObj])) (hOw.trans (only_putObj W2 (.inl (.inr (by omega))) _)) ((World.putObj_heap_other (by omega)).trans hk)

/-- **.. inside a round.** -/
theorem wpIn_rangeN {g : Operand} {ps : Array Tmp} {assign body : Code} {Q : Exit → Act → World → Prop} {a : Act} {w : World} {l₀ : Nat} {r₀ : Loop} (hl₀ : w.heap[l₀]? = some (.loop r₀)) {gf : Nat} {lb : Array Value}
    (hg : a.eval g = .func (.func gf) #[] lb) (eg : ∀ args w, (callFunc gf args).run P w = .ok (.enter gf args) w)
    {n : Nat} {S : Nat → (Nat → Prop) → Array Value → World → Prop} {Own Sh : Nat → Prop} {w0 : World} (hseq : IterS P gf lb n S Own Sh w0) (h0w : w0.heap.size ≤ w.heap.size) (hps : ∀ i C args W, S i C args W → args.size = ps.size)
    (I : Nat → (Nat → Prop) → World → Prop) (Ix : Code → Nat → (Nat → Prop) → World → Prop) (hI : Stable Own I) (hIx : ∀ c, Stable Own (Ix c))
    (C0 : Nat → Prop) (hC0 : ∀ k, C0 k → k < w.heap.size) (hOwn : ∀ k, Own k → k < w0.heap.size ∧ w.heap[k]? = w0.heap[k]? ∧ ¬ C0 k) (hSh : ∀ k, Sh k → k < w0.heap.size ∧ w.heap[k]? = w0.heap[k]? ∧ ¬ C0 k) (h0 : I 0 C0 w)
    (hround : ∀ (l i : Nat) (C : Nat → Prop) (args : Array Value) (W : World), i < n → S i (fun k => C k ∨ k = l) args W → I i C W → (∀ k, C k → k < W.heap.size) → w.heap.size ≤ l → ¬ C l → l < W.heap.size → (∀ k, Own k → k ≠ l) →
      assign.wpIn (Fence.wide.inRound l) 0 P (Exit.then (fun a1 W1 => Only (Mine C W.heap.size) W W1 ∧ ∀ W2 : World, W2.heap.size = W1.heap.size → (∀ k, k ≠ l → W2.heap[k]? = W1.heap[k]?) → (∃ r, W2.heap[l]? = some (.loop r)) →
          body.wpIn (Fence.wide.inRound l) 0 P (roundPostC I Ix i C W.heap.size W2) a1 W2) (fun _ _ _ => False))
        { tmps := (ps.zip args).foldl (fun t (p, v) => t.setIfInBounds p v) a.tmps, defers := [] } W)
    (hdone : ∀ (C : Nat → Prop) (W : World), I n C W → Only (fun k => Mine C0 w.heap.size k ∨ Sh k) w W → Q .normal a W)
    (hstop : ∀ (i : Nat) (c : Code) (C : Nat → Prop) (W : World), i ≤ n → Ix c i C W → Only (fun k => Mine C0 w.heap.size k ∨ Sh k) w W → c.wpIn (Fence.wide.inRound l₀) 0 P Q a W) :
    (Code.rangeFunc g ps assign body).wpIn (Fence.wide.inRound l₀) 0 P Q a w := by
  refine wpIn_rangeFunc ?_
  intro fn hfn
  show ∃ l mark w₁ d w₁' f args w₂, (Instr.enterLoop fn a.tmps ps assign body (some l₀)).run P w = .ok (l, mark) w₁ ∧ _
  obtain ⟨rec, hrec⟩ : ∃ rec : LoopState → Option Code → Loop, rec = fun st pe => { state := st, pending := pe, fn, tmps := a.tmps, params := ps, assign, body, defers := r₀.defers } := ⟨_, rfl⟩
  obtain ⟨W1, hW1⟩ : ∃ W1, w.alloc (.loop (rec .ready none)) = W1 := ⟨_, rfl⟩
  have hs1 : W1.heap.size = w.heap.size + 1 := by rw [← hW1]; simp
  have hold : ∀ k, k < w.heap.size → W1.heap[k]? = w.heap[k]? := fun k hk => by
    rw [← hW1]; exact Below.heap_alloc _ _ k hk
  have hL1 : W1.heap[w.heap.size]? = some (.loop (rec .ready none)) := by
    rw [← hW1]; exact World.alloc_heap_new w _
  have hO1 : Only (Mine C0 w.heap.size) w W1 := by
    rw [← hW1]; exact (Only.refl _ w).alloc (fun k hk => .inr hk) _
  refine ⟨w.heap.size, [], W1, { target := .fn (.func gf) lb, args := #[.func (.yield w.heap.size) #[] #[]] }, W1, gf,
    #[.func (.yield w.heap.size) #[] #[]] ++ lb, W1, ?_, ?_, fun f' _ => trivial, ?_, fun h => by simp [Fence.wide] at h, ?_⟩
  · rw [← hW1, hrec]; exact run_enterLoop_inner hl₀ _ _ _ _ _
  · simp only [resolve, hg]
    simp [go_sem]
  · simp [invoke, go_sem, eg]
  · -- the footprint: the caller's blocks, the record and the block for the rounds' deferred calls
    refine (hseq w.heap.size
      (fun i C W => ∃ C1 : Nat → Prop, (∀ k, C k ↔ C1 k ∨ k = w.heap.size) ∧ (∀ k, C1 k → k ≠ w.heap.size) ∧ I i C1 W ∧ W.heap[w.heap.size]? = some (.loop (rec .ready none)))
      (fun i C W => ∃ C1 : Nat → Prop, (∀ k, C k ↔ C1 k ∨ k = w.heap.size) ∧ (∀ k, C1 k → k ≠ w.heap.size) ∧ ∃ c, Ix c i C1 W ∧ W.heap[w.heap.size]? = some (.loop (rec .done (some c))))
      (fun k => C0 k ∨ k = w.heap.size) W1 (by omega)
      (fun k hk => ?_) (fun k hk => ?_) ?_ ?_ ?_ ?_ ?_).mono ?_
    · obtain ⟨h1, h2, h3⟩ := hOwn k hk
      refine ⟨h1, (hold k (by omega)).trans h2, ?_⟩
      rintro (h | h)
      · exact h3 h
      · omega
    · obtain ⟨h1, h2, h3⟩ := hSh k hk
      refine ⟨h1, (hold k (by omega)).trans h2, ?_⟩
      rintro (h | h)
      · exact h3 h
      · omega
    · rintro i C W W' ⟨C1, hC1, hne, hi, hl⟩ hsame hsz
      exact ⟨C1, hC1, hne, hI i C1 W W' hi (fun k h => hsame k (h.imp (fun h => (hC1 k).2 (.inl h)) id)) hsz, (hsame _ (.inl ((hC1 _).2 (.inr rfl)))).trans hl⟩
    · rintro i C W W' ⟨C1, hC1, hne, c, hi, hl⟩ hsame hsz
      exact ⟨C1, hC1, hne, c, hIx c i C1 W W' hi (fun k h => hsame k (h.imp (fun h => (hC1 k).2 (.inl h)) id)) hsz, (hsame _ (.inl ((hC1 _).2 (.inr rfl)))).trans hl⟩
    · -- one round
      rintro i C args W hin hS ⟨C1, hC1, hne, hi, hl⟩ hCs
      have hCe : C = fun k => C1 k ∨ k = w.heap.size := funext fun k => propext (hC1 k)
      have hlt : w.heap.size < W.heap.size := (Array.getElem?_eq_some_iff.1 hl).1
      have hy := run_yield (P := P) (args := args) hl (by rw [hrec]; exact hps _ _ _ _ hS)
      rw [hrec] at hy
      have hr := hround w.heap.size i C1 args W hin (by rw [← hCe]; exact hS) hi (fun k h => hCs k ((hC1 k).2 (.inl h))) (Nat.le_refl _) (fun h => hne _ h rfl) hlt (fun k hk => by have := (hOwn k hk).1; omega)
      refine ⟨fn, _, assign, body, hy, roundIn_of_wpIn hfn (wpIn_mono hr ?_)⟩
      rintro e a1 W2 hp
      cases e with
      | normal =>
        obtain ⟨hO, hbody⟩ := hp
        have hnl : ¬ Mine C1 W.heap.size w.heap.size := by
          rintro (h | h)
          · exact hne _ h rfl
          · omega
        have hl2 : W2.heap[w.heap.size]? = some (.loop (rec .ready none)) := (hO.block _ hnl).trans hl
        have hlt2 : w.heap.size < W2.heap.size := (Array.getElem?_eq_some_iff.1 hl2).1
        refine ⟨_, run_beginRound hl2 (by rw [hrec]), ?_⟩
        refine wpIn_mono (hbody _ (by simp [World.putObj]) (fun k hk => World.putObj_heap_other hk) ⟨_, World.putObj_heap_same hlt2⟩) ?_
        have fin : ∀ (jump : Option Code) (W3 : World), Only (Mine C1 W.heap.size) (W2.putObj w.heap.size (.loop { rec .ready none with state := .busy })) W3 →
            (Instr.endRound w.heap.size jump).run P W3 = .ok (.bool jump.isNone) (W3.putObj w.heap.size (.loop (rec (if jump.isNone then .ready else .done) jump))) ∧
            (W3.putObj w.heap.size (.loop (rec (if jump.isNone then .ready else .done) jump))).heap[w.heap.size]? = some (.loop (rec (if jump.isNone then .ready else .done) jump)) ∧
            Only (Mine C W.heap.size) W (W3.putObj w.heap.size (.loop (rec (if jump.isNone then .ready else .done) jump))) := fun jump W3 hO3 => by
          have hl3 : W3.heap[w.heap.size]? = some (.loop { rec .ready none with state := .busy }) := (hO3.block _ hnl).trans (World.putObj_heap_same hlt2)
          have := run_endRound (P := P) jump hl3
          rw [hrec] at this ⊢
          have hm : ∀ k, Mine C1 W.heap.size k → Mine C W.heap.size k := fun k h => by
            rcases h with h | h
            · exact .inl ((hC1 k).2 (.inl h))
            · exact .inr h
          refine ⟨this, World.putObj_heap_same (Array.getElem?_eq_some_iff.1 hl3).1, ?_⟩
          exact (((hO.mono hm).trans (only_putObj W2 (.inl ((hC1 _).2 (.inr rfl))) _)).trans (by rw [hrec] at hO3; exact hO3.mono hm)).trans (only_putObj W3 (.inl ((hC1 _).2 (.inr rfl))) _)
        have foot : ∀ (C' : Nat → Prop) (W3 : World) (o : Obj), Only (Mine C1 W.heap.size) (W2.putObj w.heap.size (.loop { rec .ready none with state := .busy })) W3 → (∀ k, C' k → Mine C1 W.heap.size k ∧ k < W3.heap.size) →
            (∀ k, (C' k ∨ k = w.heap.size) → Mine C W.heap.size k ∧ k < (W3.putObj w.heap.size o).heap.size) ∧ (∀ k, C' k → k ≠ w.heap.size) := fun C' W3 o hO3 hC' => by
          have hsz3 : W2.heap.size ≤ W3.heap.size := by have := hO3.size; simpa [World.putObj] using this
          refine ⟨?_, ?_⟩
          · rintro k (h | h)
            · obtain ⟨h1, h2⟩ := hC' k h
              refine ⟨?_, by simpa [World.putObj] using h2⟩
              rcases h1 with h1 | h1
              · exact .inl ((hC1 k).2 (.inl h1))
              · exact .inr h1
            · exact ⟨.inl ((hC1 k).2 (.inr h)), by simp [World.putObj]; omega⟩
          · intro k h
            obtain ⟨h1, _⟩ := hC' k h
            rcases h1 with h1 | h1
            · exact hne k h1
            · omega
        have still : ∀ (C' : Nat → Prop) (W3 : World) (o : Obj), (∀ k, C' k → k ≠ w.heap.size) → ∀ k, C' k ∨ Own k → (W3.putObj w.heap.size o).heap[k]? = W3.heap[k]? := fun C' W3 o h k hk => World.putObj_heap_other (by
          rcases hk with hk | hk
          · exact h k hk
          · have := (hOwn k hk).1; omega)
        rintro e a3 W3 hp
        cases e with
        | normal =>
          obtain ⟨hO3, C', hC', hi3⟩ := hp
          obtain ⟨hr, hl4, hO4⟩ := fin none W3 hO3
          obtain ⟨hf1, hf2⟩ := foot C' W3 (.loop (rec .ready none)) hO3 hC'
          exact ⟨_, _, hr, hO4, fun k => C' k ∨ k = w.heap.size, hf1, .inl ⟨rfl, C', fun k => Iff.rfl, hf2, hI _ C' W3 _ hi3 (still C' W3 _ hf2) (by simp [World.putObj]), hl4⟩⟩
        | ret =>
          obtain ⟨hO3, C', hC', hi3⟩ := hp
          obtain ⟨hr, hl4, hO4⟩ := fin (some .ret) W3 hO3
          obtain ⟨hf1, hf2⟩ := foot C' W3 (.loop (rec .done (some .ret))) hO3 hC'
          exact ⟨_, _, hr, hO4, fun k => C' k ∨ k = w.heap.size, hf1, .inr ⟨rfl, C', fun k => Iff.rfl, hf2, .ret, hIx _ _ C' W3 _ hi3 (still C' W3 _ hf2) (by simp [World.putObj]), hl4⟩⟩
        | exit id =>
          obtain ⟨hO3, C', hC', hi3⟩ := hp
          obtain ⟨hr, hl4, hO4⟩ := fin (some (.exit id)) W3 hO3
          obtain ⟨hf1, hf2⟩ := foot C' W3 (.loop (rec .done (some (.exit id)))) hO3 hC'
          exact ⟨_, _, hr, hO4, fun k => C' k ∨ k = w.heap.size, hf1, .inr ⟨rfl, C', fun k => Iff.rfl, hf2, .exit id, hIx _ _ C' W3 _ hi3 (still C' W3 _ hf2) (by simp [World.putObj]), hl4⟩⟩
        | goto t =>
          obtain ⟨hO3, C', hC', hi3⟩ := hp
          obtain ⟨hr, hl4, hO4⟩ := fin (some (.goto t)) W3 hO3
          obtain ⟨hf1, hf2⟩ := foot C' W3 (.loop (rec .done (some (.goto t)))) hO3 hC'
          exact ⟨_, _, hr, hO4, fun k => C' k ∨ k = w.heap.size, hf1, .inr ⟨rfl, C', fun k => Iff.rfl, hf2, .goto t, hIx _ _ C' W3 _ hi3 (still C' W3 _ hf2) (by simp [World.putObj]), hl4⟩⟩
        | panic ch => exact hp.elim
        | outgrown => exact hp.elim
      | ret => exact hp.elim
      | exit id => exact hp.elim
      | goto t => exact hp.elim
      | panic ch => exact hp.elim
      | outgrown => exact hp.elim
    · exact ⟨C0, fun k => Iff.rfl, fun k h => by have := hC0 k h; omega, hI 0 C0 w W1 h0 (fun k h => hold k (h.elim (hC0 k) (fun h => Nat.lt_of_lt_of_le (hOwn k h).1 h0w))) (by omega), hL1⟩
    · rintro k (h | h)
      · have := hC0 k h; omega
      · omega
    · -- behind the iterator
      rintro e W2 ⟨⟨v, rfl⟩, hO2, C', hC', hJ⟩
      have hmine : ∀ k, Mine (fun k => C0 k ∨ k = w.heap.size) W1.heap.size k → Mine C0 w.heap.size k := by
        rintro k ((h | h) | h)
        · exact .inl h
        · exact .inr (by omega)
        · exact .inr (by omega)
      have hOw : Only (fun k => Mine C0 w.heap.size k ∨ Sh k) w W2 := (hO1.mono (fun k h => .inl h)).trans (hO2.mono (fun k h => h.imp (hmine k) id))
      rcases hJ with ⟨C1, hC1, hne, hi, hl⟩ | ⟨i, hile, C1, hC1, hne, c, hi, hl⟩
      · have hel := run_endLoop (P := P) hl (by rw [hrec]; simp)
        rw [hrec] at hel
        refine ⟨none, _, hel, ?_⟩
        exact hdone C1 _ (hI _ C1 W2 _ hi (fun k h => World.putObj_heap_other (h.elim (fun h => hne k h) (fun h => by have := (hOwn k h).1; omega))) (by simp [World.putObj])) (hOw.trans (only_putObj W2 (.inl (.inr (by omega))) _))
      · have hel := run_endLoop (P := P) hl (by rw [hrec]; simp)
        rw [hrec] at hel
        refine ⟨some c, _, hel, ?_⟩
        exact hstop i c C1 _ hile (hIx c _ C1 W2 _ hi (fun k h => World.putObj_heap_other (h.elim (fun h => hne k h) (fun h => by have := (hOwn k h).1; omega))) (by simp [World.putObj])) (hOw.trans (only_putObj W2 (.inl (.inr (by omega))) _))
end
end Go.Proofs.YtfdklmpkienfhaaGreat
